/-
Plain facts on texts: pieces of two texts one behind the other; when two texts are the same; that what is sealed fits.
-/
import Derived.Test.YtljncbbajhoocaaCrcRef
namespace Go.Proofs.Ytljncbbajhoocaa.Crc
open Go.RowKit Go.Proofs.Ytljncbbajhoocaa.CrcMath Go.Proofs.YtljncbbajhoocaaW.PrintWords

theorem ext_left (s t : ByteArray) : (s ++ t).extract 0 s.size = s := by
  apply ByteArray.ext
  simp [ByteArray.data_extract, ByteArray.data_append]
theorem ext_right (s t : ByteArray) : (s ++ t).extract s.size (s.size + t.size) = t := by
  apply ByteArray.ext
  rw [ByteArray.data_extract, ByteArray.data_append, Array.extract_append]
  have h1 : s.data.size = s.size := rfl
  have h2 : t.data.size = t.size := rfl
  have h3 : s.data.extract s.size (s.size + t.size) = #[] := Array.extract_empty_of_size_le_start (by omega)
  rw [h3, h1, Nat.sub_self, Nat.add_sub_cancel_left, ← h2]
  simp
theorem toList_inj {a b : ByteArray} (h : a.toList = b.toList) : a = b := by
  rw [Go.ByteArray.toList_eq, Go.ByteArray.toList_eq] at h
  apply ByteArray.ext
  exact Array.toList_inj.1 h
theorem bytes_append (s t : ByteArray) : bytesOf (s ++ t) = bytesOf s ++ bytesOf t := by
  unfold bytesOf; rw [ByteArray.data_append]; simp
theorem seal_size (s : ByteArray) : (sealB s).size = s.size + 4 := by
  unfold sealB; rw [ByteArray.size_append, four_size]
theorem seal_fits (s : ByteArray) : fitsB (sealB s) = true := by
  unfold fitsB
  rw [seal_size, Nat.add_sub_cancel]
  unfold sealB
  rw [ext_left]
  have h := ext_right s (fourB (sumB (bytesOf s)))
  rw [four_size] at h
  rw [h]
  simp
theorem fits_eq (s : ByteArray) (n : Nat) (h : s.size = n + 4) : fitsB s = ((s.extract n (n + 4)).toList == (fourB (sumB (bytesOf (s.extract 0 n)))).toList) := by
  unfold fitsB
  rw [h, Nat.add_sub_cancel]
  simp only [show 4 ≤ n + 4 by omega, decide_true, Bool.true_and]
  rw [Bool.eq_iff_iff, beq_iff_eq, beq_iff_eq]
  exact ⟨fun h => h.symm, fun h => h.symm⟩
end Go.Proofs.Ytljncbbajhoocaa.Crc
