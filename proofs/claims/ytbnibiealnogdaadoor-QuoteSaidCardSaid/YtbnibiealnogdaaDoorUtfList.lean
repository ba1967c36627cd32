/- Lists of code points. -/
import Derived.Test.YtbnibiealnogdaaDoorUtfThrough
namespace Go.Proofs.YtbnibiealnogdaaDoor

theorem encs_le (ps : List Nat) (h : Utf.allCp ps) : (Utf.encs ps).length ≤ 4 * ps.length := by
  induction ps with
  | nil => simp [Utf.encs]
  | cons p ps ih =>
    have h1 := Utf.enc_len (h p (by simp))
    have h2 := Utf.sz_le (p : Int)
    have h3 := ih fun q hq => h q (by simp [hq])
    rw [Utf.encs_cons, List.length_append, List.length_cons]; omega
theorem zs_toNat : ∀ ps : List Nat, (zs ps).map Int.toNat = ps
  | [] => rfl
  | p :: ps => by show (p : Int).toNat :: (zs ps).map Int.toNat = _; rw [zs_toNat ps, Int.toNat_natCast]
end Go.Proofs.YtbnibiealnogdaaDoor
