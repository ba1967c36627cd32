/- Cuts of strings, and how the scan meets them. -/
import Derived.Test.YtbnibiealnogdaaDoorUtfThrough
namespace Go.Proofs.YtbnibiealnogdaaDoor

theorem str_take (s : ByteArray) (k : Nat) : s.extract 0 k = str (s.data.toList.take k) := by
  unfold str
  apply ByteArray.ext
  rw [ByteArray.data_extract, ← Array.toList_inj]
  simp
theorem take_str (l : List UInt8) (k : Nat) : (str l).extract 0 k = str (l.take k) := by
  rw [str_take]; rfl
theorem encs_ge (ps : List Nat) : ps.length ≤ (Utf.encs ps).length := by
  induction ps with
  | nil => simp
  | cons p ps ih => have := Utf.enc_pos p; rw [Utf.encs_cons, List.length_append, List.length_cons]; omega
theorem scan_len (l : List UInt8) : (Utf.scan l).1.length ≤ l.length := by
  obtain ⟨_, _, h3, h4, _⟩ := Utf.scan_all l
  have := encs_ge (Utf.scan l).1
  omega
theorem scan_le (l : List UInt8) : (Utf.scan l).2 ≤ l.length := (Utf.scan_all l).2.2.2.1
/-- the part before the first error is a text -/
theorem scan_cut (l : List UInt8) : Utf.scan (l.take (Utf.scan l).2) = Utf.scan l := by
  obtain ⟨h1, h2, h3, h4, _⟩ := Utf.scan_all l
  have h5 : l.take (Utf.scan l).2 = Utf.encs (Utf.scan l).1 := by
    have h6 := congrArg (List.take (Utf.scan l).2) h2
    rw [h6, List.take_append_of_le_length (by omega), List.take_of_length_le (by omega)]
  rw [h5, Utf.scan_text _ h1, ← h3]
theorem scan_cat {l k : List UInt8} (h : (Utf.scan l).2 = l.length) : Utf.scan (l ++ k) = ((Utf.scan l).1 ++ (Utf.scan k).1, l.length + (Utf.scan k).2) := by
  obtain ⟨h1, h2, h3, h4, _⟩ := Utf.scan_all l
  have h5 : l = Utf.encs (Utf.scan l).1 := by
    have h6 := h2
    rwa [List.drop_eq_nil_of_le (by omega), List.append_nil] at h6
  have h7 := Utf.scan_encs (Utf.scan l).1 h1 k
  rw [← h5] at h7
  exact h7
theorem zs_append (a b : List Nat) : zs (a ++ b) = zs a ++ zs b := by simp [zs]
end Go.Proofs.YtbnibiealnogdaaDoor
