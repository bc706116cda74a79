/- FrameNames: its constants. -/
import Derived.Test.YtkgcjelipllpdaaFrameLaw2
import Derived.Test.YtkgcjelipllpdaaRefused
namespace Go.Proofs.Ytkgcjelipllpdaa
open Go.RowKit

def oneL : List UInt8 := frm 3 [120, 121, 122]
theorem one_len : oneL.length = 19 := by kernel_rfl
theorem n_short : rdE oneL 19 = 8 := by kernel_rfl
theorem n_out20 : rdE oneL 20 = 1 := by kernel_rfl
theorem n_cut15 : rdE (oneL.take 15) 0 = 8 := by kernel_rfl
theorem n_cut16 : rdE (oneL.take 16) 0 = 8 := by kernel_rfl
theorem n_zeros : rdE (List.replicate 16 0) 0 = 4 := by kernel_rfl
theorem n_ones : rdE (List.replicate 16 255) 0 = 4 := by kernel_rfl
theorem n_sum : rdE (oneL.take 18 ++ [33]) 0 = 42 := by kernel_rfl
theorem n_big : rdE ([0, 0, 16, 1] ++ List.replicate 5000 0) 0 = 4 := by kernel_rfl
theorem n_most : rdE ([0, 0, 16, 0] ++ List.replicate 12 0) 0 = 8 := by kernel_rfl
theorem n_seq : rdE ([0, 0, 0, 1, 0, 0, 0, 0, 0, 16, 0, 0] ++ List.replicate 9 0) 0 = 4 := by kernel_rfl
def allL : List UInt8 := [106, 117, 110, 107] ++ oneL ++ frm 4 [113] ++ frm 6 [114]
theorem n_scan : scanL allL 4 3 = [4, 23] := by kernel_rfl
theorem n_good : scanG allL 4 3 = 40 := by kernel_rfl
theorem n_out : scanL allL (-1) 3 = [] := by kernel_rfl
theorem n_outg : scanG allL (-1) 3 = 0 := by kernel_rfl
theorem n_mid : scanL allL 9 3 = [] := by kernel_rfl
theorem n_midg : scanG allL 9 3 = 9 := by kernel_rfl

end Go.Proofs.Ytkgcjelipllpdaa
