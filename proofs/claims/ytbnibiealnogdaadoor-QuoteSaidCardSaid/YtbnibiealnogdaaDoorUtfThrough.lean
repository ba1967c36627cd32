/- The walks of utf's through, Points, Check. -/
import Derived.Test.YtbnibiealnogdaaDoorUtfNextAt
import Derived.Test.YtbnibiealnogdaaDoorInts
import Derived.Test.YtbnibiealnogdaaDoorConv
import Derived.Deep.Onto
namespace Go.Proofs.YtbnibiealnogdaaDoor
open Go.RowKit

def zs (ps : List Nat) : List Int := ps.map fun p : Nat => (p : Int)
theorem zs_len (ps : List Nat) : (zs ps).length = ps.length := List.length_map ..
theorem zs_snoc (ps : List Nat) (p : Nat) : ints (zs (ps ++ [p])) = ints (zs ps) ++ [.int .i64 (p : Int)] := by simp [ints, zs]
theorem wr_add {j m : Nat} (h : j + m ≤ 1048576) : wrap64 ((j : Int) + (m : Int)) = (j : Int) + (m : Int) := by unfold wrap64; omega
theorem meas {n j m : Nat} (h : 0 < m ∧ j + m ≤ n) : n - (intOf (.int .i64 ((j : Int) + (m : Int)))).toNat < n - (intOf (.int .i64 (j : Int))).toNat := by simp [intOf]; omega
theorem ne_zero {m : Nat} (h : m ≠ 0) : ((m : Int) == 0) = false := by rw [beq_eq_false_iff_ne]; omega
/-- the scan goes on -/
theorem scan_on {l : List UInt8} {ps : List Nat} {j p m : Nat} (h : Utf.scan l = (ps ++ (Utf.scan (l.drop j)).1, j + (Utf.scan (l.drop j)).2)) (hd : Utf.dec (l.drop j) = (p, m)) (hm : m ≠ 0) :
    Utf.scan l = ((ps ++ [p]) ++ (Utf.scan (l.drop (j + m))).1, (j + m) + (Utf.scan (l.drop (j + m))).2) := by
  rw [h, Utf.scan_go hd hm, List.drop_drop]
  simp only [List.append_assoc, List.cons_append, List.nil_append, Nat.add_assoc]
theorem scan_at {l : List UInt8} {ps : List Nat} {j : Nat} (h : Utf.scan l = (ps ++ (Utf.scan (l.drop j)).1, j + (Utf.scan (l.drop j)).2)) (hd : (Utf.dec (l.drop j)).2 = 0) : Utf.scan l = (ps, j) := by
  rw [h, Utf.scan_stop hd, List.append_nil, Nat.add_zero]

theorem pts1_any (base n p : Nat) (v : Value) (ps : List Nat) (W : World) (ho : W.ownsRow base 3 1 v n (ints (zs ps))) (hb : base ≤ W.heap.size) (hn : n ≤ 1048576) :
    Calls Tryd.prog 47 #[v, .int .i64 (p : Int)] W fun e W' => ∃ v', e = .returned v' ∧ W'.ownsRow base 3 1 v' (n + 1) (ints (zs (ps ++ [p]))) ∧ Below base W W' := by
  obtain ⟨i0, hi, hz0, hz1, hz2⟩ := info_parts i64_info
  have HO := hide ho
  clear ho
  go_enter Tryd.func47, Tryd.ntmps47
  go_wp2_with (at_builtin; go_loud (refine wpList_append_reads rfl (.tmp 5) (.tmp 7) _ rfl base 3 i0 (.int .i64 0) 1 8 Tryd.underlying26 hi hz0 hz1 hz2 rfl (by omega) v n (ints (zs ps)) rfl (HO.out.alloc _) (W.heap.size + 1) (some ⟨W.heap.size, 0, none⟩) 1 1 [.int .i64 (p : Int)] rfl (Reads.one _ _ _) (by intro u hu; simp at hu; subst hu; rfl) (by unfold maxLen; omega) (by omega) (by simp; omega) ?_); intro v2 w2 hown2 hg2 hat2)
  go_ret
  exact ⟨v2, rfl, by rw [zs_snoc]; exact hown2, ((Below.refl _ W).alloc hb _).grown hg2 (by simp; omega) fun j hj => (HO.out.lt j hj).1⟩
theorem chk1_any (x : Int) (p : Nat) (W : World) (h0 : 0 ≤ x) (h1 : x < 1048576) : Calls Tryd.prog 41 #[.int .i64 x, .int .i64 (p : Int)] W fun e W' => e = .returned (.int .i64 (x + 1)) ∧ W' = W := by
  go_enter Tryd.func41, Tryd.ntmps41
  go_wp2
  go_ret
  exact ⟨rfl, rfl⟩
/-- what Points answers -/
def PtsAs (l : List UInt8) (w : World) (e : Ending) (w' : World) : Prop :=
  Below w.heap.size w w' ∧ if (Utf.scan l).2 = l.length then ∃ A c, e = .returned (.tuple #[.slice A (Utf.scan l).1.length c, .int .i64 0, .int .i64 0]) ∧ RI w' A (Utf.scan l).1.length (zs (Utf.scan l).1) ∧ (Utf.scan l).1.length ≤ c ∧ c ≤ maxLen
    else e = .returned (.tuple #[.slice none 0 0, .int .i64 ((Utf.scan l).2 : Int), .int .i64 110])
set_option maxHeartbeats 4000000 in
theorem through_any (s : ByteArray) (l : List UInt8) (hs : s = str l) (w : World) (hn : l.length ≤ 100000) (hg : Gl w) :
    Calls Tryd.prog 46 #[.string s, .slice none 0 0, .func (.func 47) #[] #[]] w (PtsAs l w) := by
  obtain ⟨n, HL⟩ : ∃ n, Hid (l.length = n) := ⟨_, hide rfl⟩
  have hn1 : n ≤ 100000 := by rw [← HL.out]; exact hn
  obtain ⟨cB, w1, hconv, hrb, hb1, hcB, hmB⟩ := conv_bytes (P := Tryd.prog) w 9 29 5 s l hs n HL.out (by omega) (by kernel_rfl) (by kernel_rfl) (by kernel_rfl)
  have HRB := hide hrb
  have HB1 := hide hb1
  have HC := hide (And.intro hcB hmB)
  have HG := hide (hg.on hb1)
  have HN := hide hn1
  have HS1 := hide hb1.size
  clear hs hn hrb hb1 hmB hg
  go_enter Tryd.func46, Tryd.ntmps46
  go_wp2_with fail
  go_loopw [1, 10] (fun a i wr => ∃ (j : Nat) (ps : List Nat), i = .int .i64 (j : Int) ∧ j ≤ n ∧ ps.length ≤ j ∧ Hid (Utf.scan l = (ps ++ (Utf.scan (l.drop j)).1, j + (Utf.scan (l.drop j)).2)) ∧ Hid (wr.ownsRow w1.heap.size 3 1 a ps.length (ints (zs ps))) ∧ Hid (Below w1.heap.size w1 wr)) (fun _ i _ => n - (intOf i).toNat)
  case atStart => exact ⟨0, [], rfl, Nat.zero_le _, Nat.le_refl _, hide (by rw [List.drop_zero]; simp), hide (World.ownsRow_nil _ _ _ _), hide (Below.refl _ _)⟩
  case round =>
    obtain ⟨j, ps, rfl, hj, hpj, hsc, ho, hb⟩ := hrel
    by_cases hlt : j < n
    · have hck : ¬ cB = j := by omega
      have hj0 : (0 : Int) ≤ (j : Int) := by omega
      have hj1 : (j : Int) ≤ (n : Int) := by omega
      have hj2 : (j : Int) < (n : Int) := by omega
      have HR := hide ((HRB.out.on hb.out).behind hlt)
      go_wp2_with fail
      refine Calls.mono (next_any _ (n - j) (cB - j) (l.drop j) _ (by have := HR.out; rwa [Nat.zero_add] at this) (by omega) (by have := HC.out.1; omega) (by omega) (HG.out.on hb.out)) ?_
      rintro e w2 ⟨rfl, hb2⟩
      cases hd : Utf.dec (l.drop j) with
      | mk p m =>
        have hsz := dec_size (l.drop j)
        rw [hd, List.length_drop, HL.out] at hsz
        simp only at hsz
        by_cases hm : m = 0
        · subst hm
          have hf := scan_at hsc.out (by rw [hd])
          have HF := hide hf
          have HNE := hide (show ¬ (Utf.scan l).2 = l.length by rw [hf, HL.out]; simp only; omega)
          have HBF := hide (HB1.out.trans ((below_then hb.out hb2).mono HS1.out))
          clear hd hsz hf
          unfold nextV
          dsimp only
          go_wp2_with fail
          go_ret3
          refine ⟨HBF.out, ?_⟩
          rw [if_neg HNE.out, HF.out]
          rfl
        · have hne := ne_zero hm
          have HSC := hide (scan_on hsc.out hd hm)
          have hw := wr_add (j := j) (m := m) (by omega)
          have HW := hide hw
          have HM := hide (show 0 < m ∧ j + m ≤ n by omega)
          have HO2 := hide (own_on ho.out hb2)
          have HB2 := hide (below_then hb.out hb2)
          clear hd hsz hm
          unfold nextV
          dsimp only
          go_wp2_with fail
          refine Calls.mono (pts1_any w1.heap.size ps.length p _ ps w2 HO2.out HB2.out.size (by omega)) ?_
          rintro e w3 ⟨v3, rfl, ho3, hb3⟩
          have HB3 := hide (HB2.out.trans hb3)
          have HO3 := hide ho3
          clear ho3 hb3
          go_wp2_with fail
          go_roundw
          case rel => exact ⟨j + m, ps ++ [p], by first | rfl | congr 1, HM.out.2, by rw [List.length_append]; have := HM.out.1; simp only [List.length_cons, List.length_nil]; omega, HSC, hide (by rw [List.length_append]; exact HO3.out), HB3⟩
          case measure => rw [HW.out]; exact meas HM.out
    · obtain rfl : j = n := by omega
      have hf := scan_at hsc.out (by rw [List.drop_eq_nil_of_le (by rw [HL.out]; exact Nat.le_refl _)]; rfl)
      have HF := hide hf
      have HEQ := hide (show (Utf.scan l).2 = l.length by rw [hf, HL.out])
      have HBF := hide (HB1.out.trans (hb.out.mono HS1.out))
      obtain ⟨A5, c5, rfl, hc5, hm5, hr5⟩ := own_slice ho.out
      have HR5 := hide (And.intro hr5 (And.intro hc5 hm5))
      clear hf hc5 hm5 hr5
      go_wp2_with fail
      go_ret3
      refine ⟨HBF.out, ?_⟩
      rw [if_pos HEQ.out, HF.out]
      exact ⟨A5, c5, rfl, HR5.out.1, HR5.out.2.1, HR5.out.2.2⟩
theorem Points_any (l : List UInt8) (w : World) (hn : l.length ≤ 100000) (hg : Gl w) : Calls Tryd.prog 28 #[.string (str l)] w (PtsAs l w) := by
  have HT := hide (through_any (str l) l rfl w hn hg)
  generalize str l = s at *
  go_enter Tryd.func28, Tryd.ntmps28
  go_wp2_with fail
  refine Calls.mono HT.out ?_
  rintro e w1 ⟨hb, he⟩
  by_cases h : (Utf.scan l).2 = l.length
  · rw [if_pos h] at he
    obtain ⟨A, c, rfl, hr, hc, hm⟩ := he
    have HH := hide h
    clear h
    go_wp2_with fail
    go_ret3
    refine ⟨hb, ?_⟩
    rw [if_pos HH.out]
    exact ⟨A, c, rfl, hr, hc, hm⟩
  · rw [if_neg h] at he
    subst he
    have HH := hide h
    clear h
    go_wp2_with fail
    go_ret3
    refine ⟨hb, ?_⟩
    rw [if_neg HH.out]
    rfl
/-- what Check answers -/
def chkV (l : List UInt8) : Value := if (Utf.scan l).2 = l.length then .tuple #[.int .i64 0, .int .i64 0] else .tuple #[.int .i64 ((Utf.scan l).2 : Int), .int .i64 110]
def thcV (l : List UInt8) (x : Value) : Value := if (Utf.scan l).2 = l.length then .tuple #[x, .int .i64 0, .int .i64 0] else .tuple #[x, .int .i64 ((Utf.scan l).2 : Int), .int .i64 110]
theorem thc_yes {l : List UInt8} (h : (Utf.scan l).2 = l.length) (x : Value) : thcV l x = .tuple #[x, .int .i64 0, .int .i64 0] := if_pos h
theorem thc_no {l : List UInt8} (h : ¬ (Utf.scan l).2 = l.length) (x : Value) : thcV l x = .tuple #[x, .int .i64 ((Utf.scan l).2 : Int), .int .i64 110] := if_neg h
set_option maxHeartbeats 4000000 in
theorem throughc_any (s : ByteArray) (l : List UInt8) (hs : s = str l) (w : World) (hn : l.length ≤ 100000) (hg : Gl w) :
    Calls Tryd.prog 40 #[.string s, .int .i64 0, .func (.func 41) #[] #[]] w fun e w' => Below w.heap.size w w' ∧ ∃ x, e = .returned (thcV l x) := by
  obtain ⟨n, HL⟩ : ∃ n, Hid (l.length = n) := ⟨_, hide rfl⟩
  have hn1 : n ≤ 100000 := by rw [← HL.out]; exact hn
  obtain ⟨cB, w1, hconv, hrb, hb1, hcB, hmB⟩ := conv_bytes (P := Tryd.prog) w 9 29 5 s l hs n HL.out (by omega) (by kernel_rfl) (by kernel_rfl) (by kernel_rfl)
  have HRB := hide hrb
  have HB1 := hide hb1
  have HC := hide (And.intro hcB hmB)
  have HG := hide (hg.on hb1)
  have HN := hide hn1
  have HS1 := hide hb1.size
  clear hs hn hrb hb1 hmB hg
  go_enter Tryd.func40, Tryd.ntmps40
  go_wp2_with fail
  go_loopw [1, 10] (fun a i wr => ∃ (j : Nat) (ps : List Nat), i = .int .i64 (j : Int) ∧ a = .int .i64 (ps.length : Int) ∧ j ≤ n ∧ ps.length ≤ j ∧ Hid (Utf.scan l = (ps ++ (Utf.scan (l.drop j)).1, j + (Utf.scan (l.drop j)).2)) ∧ Hid (Below w1.heap.size w1 wr)) (fun _ i _ => n - (intOf i).toNat)
  case atStart => exact ⟨0, [], rfl, rfl, Nat.zero_le _, Nat.le_refl _, hide (by rw [List.drop_zero]; simp), hide (Below.refl _ _)⟩
  case round =>
    obtain ⟨j, ps, rfl, rfl, hj, hpj, hsc, hb⟩ := hrel
    by_cases hlt : j < n
    · have hck : ¬ cB = j := by omega
      have hj0 : (0 : Int) ≤ (j : Int) := by omega
      have hj1 : (j : Int) ≤ (n : Int) := by omega
      have hj2 : (j : Int) < (n : Int) := by omega
      have HR := hide ((HRB.out.on hb.out).behind hlt)
      go_wp2_with fail
      refine Calls.mono (next_any _ (n - j) (cB - j) (l.drop j) _ (by have := HR.out; rwa [Nat.zero_add] at this) (by omega) (by have := HC.out.1; omega) (by omega) (HG.out.on hb.out)) ?_
      rintro e w2 ⟨rfl, hb2⟩
      cases hd : Utf.dec (l.drop j) with
      | mk p m =>
        have hsz := dec_size (l.drop j)
        rw [hd, List.length_drop, HL.out] at hsz
        simp only at hsz
        by_cases hm : m = 0
        · subst hm
          have hf := scan_at hsc.out (by rw [hd])
          have HF := hide hf
          have HNE := hide (show ¬ (Utf.scan l).2 = l.length by rw [hf, HL.out]; simp only; omega)
          have HBF := hide (HB1.out.trans ((below_then hb.out hb2).mono HS1.out))
          clear hd hsz hf
          unfold nextV
          dsimp only
          go_wp2_with fail
          go_ret3
          refine ⟨HBF.out, .int .i64 0, ?_⟩
          rw [thc_no HNE.out, HF.out]
          rfl
        · have hne := ne_zero hm
          have HSC := hide (scan_on hsc.out hd hm)
          have hw := wr_add (j := j) (m := m) (by omega)
          have HW := hide hw
          have HM := hide (show 0 < m ∧ j + m ≤ n by omega)
          have HB2 := hide (below_then hb.out hb2)
          clear hd hsz hm
          unfold nextV
          dsimp only
          go_wp2_with fail
          refine Calls.mono (chk1_any (ps.length : Int) p w2 (by omega) (by omega)) ?_
          rintro e w3 ⟨rfl, rfl⟩
          go_wp2_with fail
          go_roundw
          case rel => exact ⟨j + m, ps ++ [p], by first | rfl | congr 1, by rw [List.length_append]; rfl, HM.out.2, by rw [List.length_append]; have := HM.out.1; simp only [List.length_cons, List.length_nil]; omega, HSC, HB2⟩
          case measure => rw [HW.out]; exact meas HM.out
    · obtain rfl : j = n := by omega
      have hf := scan_at hsc.out (by rw [List.drop_eq_nil_of_le (by rw [HL.out]; exact Nat.le_refl _)]; rfl)
      have HEQ := hide (show (Utf.scan l).2 = l.length by rw [hf, HL.out])
      have HBF := hide (HB1.out.trans (hb.out.mono HS1.out))
      clear hf
      go_wp2_with fail
      go_ret3
      refine ⟨HBF.out, .int .i64 (ps.length : Int), ?_⟩
      rw [thc_yes HEQ.out]
      rfl
theorem Check_any (l : List UInt8) (w : World) (hn : l.length ≤ 100000) (hg : Gl w) : Calls Tryd.prog 23 #[.string (str l)] w fun e w' => e = .returned (chkV l) ∧ Below w.heap.size w w' := by
  have HT := hide (throughc_any (str l) l rfl w hn hg)
  generalize str l = s at *
  go_enter Tryd.func23, Tryd.ntmps23
  go_wp2_with fail
  refine Calls.mono HT.out ?_
  rintro e w1 ⟨hb, x, rfl⟩
  by_cases h : (Utf.scan l).2 = l.length
  · rw [thc_yes h]
    have HH := hide (show chkV l = .tuple #[.int .i64 0, .int .i64 0] by unfold chkV; rw [if_pos h])
    clear h
    go_wp2_with fail
    go_ret2
    exact ⟨by rw [HH.out]; rfl, hb⟩
  · rw [thc_no h]
    have HH := hide (show chkV l = .tuple #[.int .i64 ((Utf.scan l).2 : Int), .int .i64 110] by unfold chkV; rw [if_neg h])
    clear h
    go_wp2_with fail
    go_ret2
    exact ⟨by rw [HH.out]; rfl, hb⟩
end Go.Proofs.YtbnibiealnogdaaDoor
