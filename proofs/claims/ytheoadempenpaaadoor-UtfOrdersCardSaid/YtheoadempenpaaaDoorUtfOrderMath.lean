/- The order of texts, byte by byte, is the order of their code points. No program in sight. -/
import Derived.Test.YtheoadempenpaaaDoorUtfMath
namespace Go.Proofs.YtheoadempenpaaaDoor.Utf

/-- the order of lists of numbers -/
def ltL : List Nat → List Nat → Bool
  | _, [] => false
  | [], _ :: _ => true
  | a :: l, b :: m => if a < b then true else if b < a then false else ltL l m
def num (l : List UInt8) : List Nat := l.map UInt8.toNat
theorem num_append (a b : List UInt8) : num (a ++ b) = num a ++ num b := by simp [num]
theorem ltL_same (x l m : List Nat) : ltL (x ++ l) (x ++ m) = ltL l m := by
  induction x with
  | nil => rfl
  | cons a x ih => rw [List.cons_append, List.cons_append, ltL, if_neg (by omega), if_neg (by omega), ih]
theorem num_enc {p : Nat} (h : isCp p = true) : num (enc p) = if p < 128 then [p] else if p < 2048 then [192 + p / 64, 128 + p % 64]
    else if p < 65536 then [224 + p / 4096, 128 + p / 64 % 64, 128 + p % 64] else [240 + p / 262144, 128 + p / 4096 % 64, 128 + p / 64 % 64, 128 + p % 64] := by
  have hb := isCp_iff.1 h
  unfold enc num
  by_cases h1 : p < 128
  · simp only [h1, if_true, List.map_cons, List.map_nil]
    rw [u8_toNat (by omega)]
  · simp only [h1, if_false]
    by_cases h2 : p < 2048
    · simp only [h2, if_true, List.map_cons, List.map_nil]
      rw [u8_toNat (by omega), u8_toNat (by omega)]
    · simp only [h2, if_false]
      by_cases h3 : p < 65536
      · simp only [h3, if_true, List.map_cons, List.map_nil]
        rw [u8_toNat (by omega), u8_toNat (by omega), u8_toNat (by omega)]
      · simp only [h3, if_false, List.map_cons, List.map_nil]
        rw [u8_toNat (by omega), u8_toNat (by omega), u8_toNat (by omega), u8_toNat (by omega)]
theorem lt_head {a b : Nat} {l m : List Nat} (h : a < b) : ltL (a :: l) (b :: m) = true := by rw [ltL, if_pos h]
theorem gt_head {a b : Nat} {l m : List Nat} (h : b < a) : ltL (a :: l) (b :: m) = false := by rw [ltL, if_neg (by omega), if_pos h]
theorem eq_head {a b : Nat} {l m : List Nat} (h : a = b) : ltL (a :: l) (b :: m) = ltL l m := by rw [ltL, if_neg (by omega), if_neg (by omega)]
theorem enc_lt {p q : Nat} (hp : isCp p = true) (hq : isCp q = true) (h : p < q) (x y : List Nat) : ltL (num (enc p) ++ x) (num (enc q) ++ y) = true := by
  have bp := isCp_iff.1 hp
  have bq := isCp_iff.1 hq
  rw [num_enc hp, num_enc hq]
  by_cases q1 : q < 128
  · rw [if_pos q1, if_pos (show p < 128 by omega)]
    exact lt_head h
  · rw [if_neg q1]
    by_cases q2 : q < 2048
    · rw [if_pos q2]
      by_cases p1 : p < 128
      · rw [if_pos p1]; exact lt_head (by omega)
      · rw [if_neg p1, if_pos (show p < 2048 by omega)]
        by_cases e : p / 64 = q / 64
        · refine (eq_head (by omega)).trans ?_
          exact lt_head (by omega)
        · exact lt_head (by omega)
    · rw [if_neg q2]
      by_cases q3 : q < 65536
      · rw [if_pos q3]
        by_cases p1 : p < 128
        · rw [if_pos p1]; exact lt_head (by omega)
        · rw [if_neg p1]
          by_cases p2 : p < 2048
          · rw [if_pos p2]; exact lt_head (by omega)
          · rw [if_neg p2, if_pos (show p < 65536 by omega)]
            by_cases e : p / 4096 = q / 4096
            · refine (eq_head (by omega)).trans ?_
              by_cases e2 : p / 64 = q / 64
              · refine (eq_head (by omega)).trans ?_
                exact lt_head (by omega)
              · exact lt_head (by omega)
            · exact lt_head (by omega)
      · rw [if_neg q3]
        by_cases p1 : p < 128
        · rw [if_pos p1]; exact lt_head (by omega)
        · rw [if_neg p1]
          by_cases p2 : p < 2048
          · rw [if_pos p2]; exact lt_head (by omega)
          · rw [if_neg p2]
            by_cases p3 : p < 65536
            · rw [if_pos p3]; exact lt_head (by omega)
            · rw [if_neg p3]
              by_cases e : p / 262144 = q / 262144
              · refine (eq_head (by omega)).trans ?_
                by_cases e2 : p / 4096 = q / 4096
                · refine (eq_head (by omega)).trans ?_
                  by_cases e3 : p / 64 = q / 64
                  · refine (eq_head (by omega)).trans ?_
                    exact lt_head (by omega)
                  · exact lt_head (by omega)
                · exact lt_head (by omega)
              · exact lt_head (by omega)
theorem ltL_asymm : ∀ {l m : List Nat}, ltL l m = true → ltL m l = false
  | [], [], h => by cases h
  | [], _ :: _, _ => rfl
  | _ :: _, [], h => by cases h
  | a :: l, b :: m, h => by
    rw [ltL] at h
    split at h
    · exact gt_head (by assumption)
    · split at h
      · cases h
      · rw [eq_head (by omega)]; exact ltL_asymm h
/-- the order of the bytes is the order of the code points -/
theorem encs_order : ∀ (ps qs : List Nat), allCp ps → allCp qs → ltL (num (encs ps)) (num (encs qs)) = ltL ps qs
  | [], [], _, _ => rfl
  | [], q :: qs, _, hq => by
    have h := enc_pos q
    rw [encs_cons]
    cases he : enc q with
    | nil => rw [he] at h; cases h
    | cons c r => rfl
  | p :: ps, [], _, _ => by cases h : num (encs (p :: ps)) <;> rfl
  | p :: ps, q :: qs, hp, hq => by
    rw [encs_cons, encs_cons, num_append, num_append]
    by_cases h1 : p < q
    · rw [enc_lt (hp p (by simp)) (hq q (by simp)) h1, lt_head h1]
    · by_cases h2 : q < p
      · rw [ltL_asymm (enc_lt (hq q (by simp)) (hp p (by simp)) h2 _ _), gt_head h2]
      · obtain rfl : p = q := by omega
        rw [ltL_same, eq_head rfl]
        exact encs_order ps qs (fun x hx => hp x (by simp [hx])) (fun x hx => hq x (by simp [hx]))
end Go.Proofs.YtheoadempenpaaaDoor.Utf
