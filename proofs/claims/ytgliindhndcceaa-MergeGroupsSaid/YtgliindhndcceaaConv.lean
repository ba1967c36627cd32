/- The conversion of a string to bytes, as the walks of this seat use it. No program in sight. -/
import Derived.Test.YtgliindhndcceaaKit
import Derived.Laws.IdiomStrings
namespace Go.Proofs.Ytgliindhndcceaa
open Go.RowKit

theorem str_cat (a b : List UInt8) : str a ++ str b = str (a ++ b) := by
  apply ByteArray.ext
  simp [str, ByteArray.data_append]
theorem conv_bytes {P : Program} (W : World) (src dst e : TypeId) (s : ByteArray) (l : List UInt8) (he : s = str l) (n : Nat) (hn : l.length = n) (hl : n ≤ 1048576) (hs : P.underlying src = some .string) (hd : P.underlying dst = some (.slice e)) (hu : P.underlying e = some (.int .u8)) :
    ∃ c W', (convert src dst (.string s)).run P W = .ok (.slice (some ⟨W.heap.size, 0, none⟩) n c) W' ∧ RB W' (some ⟨W.heap.size, 0, none⟩) n l ∧ Below W.heap.size W W' ∧ n ≤ c ∧ c ≤ maxLen := by
  subst he
  subst hn
  have hz := str_size l
  have hge := grownCap_ge W l.length 0 e
  have hle := grownCap_le_maxLen W l.length 0 e (by unfold maxLen; omega)
  have h := run_bytes_of_string W src dst e (str l) hs hd hu
  rw [hz] at h
  refine ⟨_, _, h, RB.head (heap_alloc_new W.drew _) ?_ rfl, ((Below.refl _ W).drew).alloc (Nat.le_refl _) _, hge, hle⟩
  unfold bytesRow bytes
  rw [Array.toList_append, List.take_append_of_le_length (by simp [str])]
  simp only [str, Array.toList_map]
  exact List.take_of_length_le (by simp)
end Go.Proofs.Ytgliindhndcceaa
