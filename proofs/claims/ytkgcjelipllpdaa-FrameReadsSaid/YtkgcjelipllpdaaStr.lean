/- Strings and their bytes. -/
import Derived.Test.YtkgcjelipllpdaaFour
namespace Go.Proofs.Ytkgcjelipllpdaa

theorem bs_data (l : List UInt8) : (bs l).data.toList = l := by unfold bs; simp
theorem size_bs (l : List UInt8) : (bs l).size = l.length := by unfold bs; simp [ByteArray.size]
theorem bs_of (s : ByteArray) : bs s.data.toList = s := by unfold bs; simp
theorem ba_ext {s t : ByteArray} (h : s.data.toList = t.data.toList) : s = t := by rw [← bs_of s, h, bs_of]
theorem data_app (s t : ByteArray) : (s ++ t).data.toList = s.data.toList ++ t.data.toList := by simp
theorem len_data (s : ByteArray) : s.data.toList.length = s.size := rfl
theorem toList_bs (l : List UInt8) : (bs l).toList = l := by rw [ByteArray.toList_eq, bs_data]
theorem bs_app (l m : List UInt8) : bs l ++ bs m = bs (l ++ m) := ba_ext (by rw [data_app, bs_data, bs_data, bs_data])
theorem bs_eq {l m : List UInt8} : bs l = bs m ↔ l = m := ⟨fun h => by rw [← bs_data l, h, bs_data], fun h => by rw [h]⟩
theorem empty_iff (s : ByteArray) : s.toList.isEmpty = decide (s.size = 0) := by
  rw [ByteArray.toList_eq, ← len_data]
  cases s.data.toList <;> simp

end Go.Proofs.Ytkgcjelipllpdaa
