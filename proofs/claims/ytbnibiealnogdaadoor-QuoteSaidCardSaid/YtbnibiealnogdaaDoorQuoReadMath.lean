/- What Read answers, by the laws' own questions. No program in sight. -/
import Derived.Test.YtbnibiealnogdaaDoorQuoPrint
import Derived.Test.YtbnibiealnogdaaDoorQuoRead
namespace Go.Proofs.YtbnibiealnogdaaDoor
open Go.RowKit

theorem wrongE_ne (D : List UInt8) : wrongE D ≠ 0 := by
  have := wrong_ne D
  rwa [bne_iff_ne] at this
theorem readR_zero_nil : readR [] 0 = ([], 0, 6) := rfl
theorem readR_zero {l : List UInt8} (h : l[0]? = some 34) : readR l 0 = ((readAt l 0).1, ((readAt l 0).2.1 : Int), (readAt l 0).2.2) := by
  have hl : 0 < l.length := (List.getElem?_eq_some_iff.1 h).1
  unfold readR
  rw [if_neg (by omega), if_neg (by omega), show Int.toNat 0 = 0 from rfl, if_pos h]
theorem readR_zero_no {l : List UInt8} (hl : 0 < l.length) (h : ¬ l[0]? = some 34) : readR l 0 = ([], 0, 7) := by
  unfold readR
  rw [if_neg (by omega), if_neg (by omega), show Int.toNat 0 = 0 from rfl, if_neg h]
/-- a text is read, or there is an error within the row -/
theorem read_cases (l : List UInt8) : (∃ k, l[0]? = some 34 ∧ l[1 + k]? = some 34 ∧ (Quo.qscan (l.drop 1)).2 = k ∧ readR l 0 = ((Quo.qscan (l.drop 1)).1, ((k + 2 : Nat) : Int), 0)) ∨
    (∃ (q : Nat) (e : Int), q ≤ l.length ∧ e ≠ 0 ∧ readR l 0 = ([], (q : Int), e)) := by
  rcases Nat.eq_zero_or_pos l.length with h0 | h0
  · obtain rfl : l = [] := List.eq_nil_of_length_eq_zero h0
    exact .inr ⟨0, 6, Nat.le_refl _, by decide, rfl⟩
  · by_cases h : l[0]? = some 34
    · have hq : (Quo.qscan (l.drop 1)).2 ≤ l.length - 1 := by have := (Quo.qscan_all (l.drop 1)).2.1; rwa [List.length_drop] at this
      obtain ⟨k, hk⟩ : ∃ k, (Quo.qscan (l.drop 1)).2 = k := ⟨_, rfl⟩
      by_cases h2 : l[1 + k]? = some 34
      · refine .inl ⟨k, h, h2, hk, ?_⟩
        rw [readR_zero h, readAt_yes (k := 0) (q := 1 + k) (by rw [hk]; first | done | omega) h2]
        show (_, ((1 + k + 1 : Nat) : Int), (0 : Int)) = _
        rw [show 1 + k + 1 = k + 2 by omega]
      · refine .inr ⟨1 + k, wrongE (l.drop (1 + k)), by omega, wrongE_ne _, ?_⟩
        rw [readR_zero h, readAt_no (k := 0) (q := 1 + k) (by rw [hk]; first | done | omega) h2]
    · exact .inr ⟨0, 7, Nat.zero_le _, by decide, readR_zero_no h0 h⟩
/-- no proper part of a literal is one -/
theorem read_cut {l : List UInt8} {k m : Nat} (_h0 : l[0]? = some 34) (_h1 : l[1 + k]? = some 34) (hk : (Quo.qscan (l.drop 1)).2 = k) (hm : m < k + 2) :
    ∃ (q : Nat) (e : Int), q ≤ m ∧ e ≠ 0 ∧ readR (l.take m) 0 = ([], (q : Int), e) := by
  rcases read_cases (l.take m) with ⟨k', h2, h3, h4, _⟩ | ⟨q, e, h2, h3, h4⟩
  · exfalso
    have hlt : 1 + k' < (l.take m).length := (List.getElem?_eq_some_iff.1 h3).1
    rw [List.length_take] at hlt
    have hd : (l.take m).drop 1 = (l.drop 1).take (m - 1) := by rw [List.drop_take]
    have h5 := Quo.qscan_part ((l.take m).drop 1).length ((l.take m).drop 1) ((l.drop 1).drop (m - 1)) (Nat.le_refl _) (by rw [h4, List.getElem?_drop]; exact h3)
    have e : (l.take m).drop 1 ++ (l.drop 1).drop (m - 1) = l.drop 1 := by rw [hd, List.take_append_drop]
    rw [e] at h5
    have h6 := congrArg Prod.snd h5
    rw [hk, h4] at h6
    omega
  · rw [List.length_take] at h2
    exact ⟨q, e, by omega, h3, h4⟩
/-- a printed text is read back, whatever precedes and follows it -/
theorem read_back (a r : List UInt8) {ps : List Nat} (hp : Utf.allCp ps) : readR (a ++ (quoted ps ++ r)) (a.length : Int) = (ps, ((a.length + (quoted ps).length : Nat) : Int), 0) := by
  have hq : quoted ps ++ r = 34 :: (Quo.items ps ++ (34 :: r)) := by unfold quoted; simp
  have hd : (a ++ (quoted ps ++ r)).drop (a.length + 1) = Quo.items ps ++ (34 :: r) := by
    rw [← List.drop_drop, List.drop_left, hq]
    rfl
  have hl : a.length < (a ++ (quoted ps ++ r)).length := by rw [hq]; simp
  have h34 : (a ++ (quoted ps ++ r))[a.length]? = some 34 := by rw [List.getElem?_append_right (Nat.le_refl _), Nat.sub_self, hq]; rfl
  have hs : Quo.qscan (Quo.items ps ++ (34 :: r)) = (ps, (Quo.items ps).length) := by
    rw [Quo.qscan_items ps hp, Quo.qscan_stop (by rw [Quo.sign_end])]
    simp
  have hlen : (quoted ps).length = (Quo.items ps).length + 2 := by unfold quoted; simp
  have hat : (a ++ (quoted ps ++ r))[a.length + 1 + (Quo.items ps).length]? = some 34 := by
    rw [← List.getElem?_drop, hd, List.getElem?_append_right (Nat.le_refl _), Nat.sub_self]
    rfl
  unfold readR
  rw [if_neg (by omega), if_neg (by omega), Int.toNat_natCast, if_pos h34, readAt_yes (q := a.length + 1 + (Quo.items ps).length) (by rw [hd, hs]) hat, hd, hs, hlen]
  show (ps, ((a.length + 1 + (Quo.items ps).length + 1 : Nat) : Int), (0 : Int)) = _
  rw [show a.length + 1 + (Quo.items ps).length + 1 = a.length + ((Quo.items ps).length + 2) by omega]
/-- what a literal says is a text; its canonical literal is no longer -/
theorem read_least {l : List UInt8} {k : Nat} (_h0 : l[0]? = some 34) (h1 : l[1 + k]? = some 34) (hk : (Quo.qscan (l.drop 1)).2 = k) :
    Utf.allCp (Quo.qscan (l.drop 1)).1 ∧ (quoted (Quo.qscan (l.drop 1)).1).length ≤ k + 2 ∧ k + 2 ≤ l.length := by
  obtain ⟨f1, f2, f3, _, _⟩ := Quo.qscan_all (l.drop 1)
  have hlt := (List.getElem?_eq_some_iff.1 h1).1
  refine ⟨f1, ?_, by omega⟩
  unfold quoted
  rw [List.length_cons, List.length_append]
  rw [hk] at f3
  show (Quo.items _).length + 1 + 1 ≤ k + 2
  omega
theorem scan_of_text {ps : List Nat} (h : Utf.allCp ps) : (Utf.scan (Utf.encs ps)).2 = (Utf.encs ps).length ∧ (Utf.scan (Utf.encs ps)).1 = ps := by
  rw [Utf.scan_text ps h]; exact ⟨rfl, rfl⟩
theorem printV_text {ps : List Nat} (h : Utf.allCp ps) : printV (Utf.encs ps) = .tuple #[.string (str (quoted ps)), .int .i64 0] := by
  obtain ⟨h1, h2⟩ := scan_of_text h
  unfold printV
  rw [if_pos h1, h2]
theorem tmod_nat (t : Int) (m : Nat) (hm : 0 < m) : ∃ k : Nat, k < m ∧ (IntKind.u64.wrap t).tmod m = (k : Int) := by
  have h : 0 ≤ IntKind.u64.wrap t := by unfold IntKind.wrap; simp [IntKind.signed, IntKind.bits]; omega
  have h1 := Int.emod_nonneg (IntKind.u64.wrap t) (b := (m : Int)) (by omega)
  have h2 := Int.emod_lt_of_pos (IntKind.u64.wrap t) (b := (m : Int)) (by omega)
  refine ⟨((IntKind.u64.wrap t).tmod m).toNat, ?_, ?_⟩
  · rw [Int.tmod_eq_emod_of_nonneg h]; omega
  · rw [Int.tmod_eq_emod_of_nonneg h]; omega
end Go.Proofs.YtbnibiealnogdaaDoor
