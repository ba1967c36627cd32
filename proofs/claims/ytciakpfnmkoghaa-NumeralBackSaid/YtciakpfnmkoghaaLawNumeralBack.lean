/- Proved: davenportlaw03.NumeralBack returns true for every input: numeral.Read returns n for Print of n, whatever precedes it, and whatever follows that does not continue the numeral. No condition. -/
import Derived.Test.YtciakpfnmkoghaaRows
import Derived.Test.YtciakpfnmkoghaaOpen
import Derived.Test.YtciakpfnmkoghaaNumWakes
import Derived.Test.YtciakpfnmkoghaaNumRefPrint
import Derived.Test.YtciakpfnmkoghaaNumBackMath
import Derived.Test.YtciakpfnmkoghaaConv
import Derived.Test.YtciakpfnmkoghaaConcat
import Derived.Test.YtciakpfnmkoghaaContains
namespace Go.Proofs.Ytciakpfnmkoghaa.LawNumeralBack
open Go.ChangeShapes Go.WideShapes Go.ChangeAt Go.RowKit
open Go.ChangeMaps (open_string shut_string)

set_option maxHeartbeats 2000000 in
theorem walk (A : Option Addr) (n c : Nat) (l : List UInt8) (z : Int) (B : Option Addr) (m d : Nat) (k : List UInt8) (w : World) (w0 : Arg w A n c l) (w1 : (Lit.int .i64 z).wf = true) (w2 : Arg w B m d k) :
    Calls Try.prog 8 #[.slice A n c, .int .i64 z, .slice B m d] w fun e w' => e = .returned (.bool true) ∧ Below w.heap.size w w' := by
  obtain ⟨hr, hc, hm⟩ := w0
  obtain ⟨hrB, hcB, hmB⟩ := w2
  obtain ⟨h0, h1⟩ := wf_i64 w1
  clear w1
  have kc := fun (W : World) (C : Array Value) (n c : Nat) => Lib.run_convert_bytes_const (P := Try.prog) W 32 5 C n c Try.underlying32 Try.underlying5
  have hpl := print_len h0 h1
  have hps := str_size (Num.print z)
  have HBA := hide (Num.back_alone z h0 h1)
  go_enter Try.func8, Try.ntmps8
  go_wp2_with fail
  refine Calls.mono (wakes_any _) ?_
  rintro e w1 ⟨rfl, hb1⟩
  go_wp2_with fail
  refine Calls.mono (few_rb _ _ _ _ _ (hr.on hb1) hc hm) ?_
  rintro e w2 ⟨A2, n2, c2, rfl, hr2, hn2, hc2, hm2, hb2⟩
  have hb2' := below_then hb1 hb2
  go_wp2_with fail
  refine Calls.mono (few_rb _ _ _ _ _ (hrB.on hb2') hcB hmB) ?_
  rintro e w3 ⟨B3, n3, c3, rfl, hr3, hn3, hc3, hm3, hb3⟩
  have hb3' := below_then hb2' hb3
  have hp3 := hr2.on hb3
  generalize l.take FEW = P at *
  generalize k.take FEW = Q at *
  clear hb1 hb2 hb3 hb2' hr2 hr hrB hc hm hcB hmB
  go_wp2_with fail
  refine Calls.mono (print_any z _ h0 h1) ?_
  rintro e w4 ⟨rfl, hb4⟩
  have hb4' := below_then hb3' hb4
  have hp4 := hp3.on hb4
  have hq4 := hr3.on hb4
  clear hb3' hb4 hp3 hr3
  obtain ⟨c5, W5, hc5, hr5, hbc5, hle5, hm5⟩ := conv_bytes (P := Try.prog) w4 9 32 5 (str (Num.print z)) _ rfl (Num.print z).length rfl (by omega) (by kernel_rfl) (by kernel_rfl) (by kernel_rfl)
  have HR5 := hide hr5
  have HB5 := hide (below_then hb4' hbc5)
  have HP5 := hide (hp4.on hbc5)
  have HQ5 := hide (hq4.on hbc5)
  clear hr5 hbc5 hb4' hp4 hq4
  go_wp2_with fail
  refine Calls.mono (read_any _ _ _ _ 0 _ HR5.out (by omega) hle5 (by omega) (by omega)) ?_
  rintro e w6 ⟨rfl, hb6⟩
  rw [HBA.out]
  have HB6 := hide (below_then HB5.out hb6)
  have HP6 := hide (HP5.out.on hb6)
  have HQ6 := hide (HQ5.out.on hb6)
  clear hb6 hc5
  obtain ⟨c7, W7, hc7, hr7, hbc7, hle7, hm7⟩ := conv_bytes (P := Try.prog) w6 9 32 5 (str (Num.print z)) _ rfl (Num.print z).length rfl (by omega) (by kernel_rfl) (by kernel_rfl) (by kernel_rfl)
  have HR7 := hide hr7
  have HB7 := hide (below_then HB6.out hbc7)
  have HP7 := hide (HP6.out.on hbc7)
  have HQ7 := hide (HQ6.out.on hbc7)
  clear hr7 hbc7
  go_wp2_with fail
  refine Calls.mono (concat_any _ 3 _ [⟨A2, n2, c2, P⟩, ⟨some ⟨w6.heap.size, 0, none⟩, (Num.print z).length, c7, Num.print z⟩, ⟨B3, n3, c3, Q⟩] _ rfl ?_ (by omega) (by simp [lens]; omega)) ?_
  · intro i hi
    match i, hi with
    | 0, _ => exact ⟨by simp, HP7.out.on (below_alloc _ _)⟩
    | 1, _ => exact ⟨by simp, HR7.out.on (below_alloc _ _)⟩
    | 2, _ => exact ⟨by simp, HQ7.out.on (below_alloc _ _)⟩
  rintro e w8 ⟨v, rfl, ho8, hb8⟩
  have hb8' := below_then (below_alloc W7 _) hb8
  obtain ⟨C, c8, rfl, hc8, hm8, hr8⟩ := own_slice ho8
  have hsum : lens [⟨A2, n2, c2, P⟩, ⟨some ⟨w6.heap.size, 0, none⟩, (Num.print z).length, c7, Num.print z⟩, ⟨B3, n3, c3, Q⟩] 3 = n2 + ((Num.print z).length + n3) := by simp [lens]
  have hcat : cat [⟨A2, n2, c2, P⟩, ⟨some ⟨w6.heap.size, 0, none⟩, (Num.print z).length, c7, Num.print z⟩, ⟨B3, n3, c3, Q⟩] 3 = P ++ (Num.print z ++ Q) := by simp [cat]
  rw [hsum, hcat] at hr8
  rw [hsum] at hc8 ⊢
  have HR8 : Hid (RB w8 C (n2 + ((Num.print z).length + n3)) (P ++ (Num.print z ++ Q))) := hide hr8
  have HB8 := hide (below_then HB7.out hb8')
  have HQ8 := hide (HQ7.out.on hb8')
  have HPL := hide HP7.out.len
  have HQL := hide HQ7.out.len
  clear hsum hcat ho8 hr8 hb8 hb8' HP7 HQ7 HR7 HB7 HP6 HQ6 HB6 HP5 HQ5 HB5 HR5 hc7
  go_wp2_with fail
  refine Calls.mono (read_any _ _ _ _ (n2 : Int) _ HR8.out (by omega) hc8 (by omega) (by omega)) ?_
  rintro e w9 ⟨rfl, hb9⟩
  have HB9 := hide (below_then HB8.out hb9)
  have HQ9 := hide (HQ8.out.on hb9)
  clear hb9 HR8 HB8 HQ8
  have hgood := fun (h : Num.Stops z Q) => Num.back_good P z Q h0 h1 h
  rw [HPL.out] at hgood
  cases hQ : Q with
  | nil =>
    subst hQ
    obtain rfl : n3 = 0 := by have := HQL.out; simpa using this.symm
    rw [hgood (fun c hc => by simp at hc)]
    clear hgood
    go_wp2_with fail
    go_ret
    exact ⟨by simp, HB9.out⟩
  | cons x R =>
    subst hQ
    have h3 : 0 < n3 := by have := HQL.out; simp at this; omega
    have hne : ((n3 : Int) == 0) = false := by rw [beq_eq_false_iff_ne]; omega
    have h3i : (0 : Int) < (n3 : Int) := by omega
    obtain ⟨bq, oq, rfl, hbq, hcq⟩ := HQ9.out.cell (k := 0) (by simp)
    rw [Nat.add_zero] at hcq
    replace hcq : w9.cell? ⟨bq, oq, none⟩ = some (.int .u8 (x.toNat : Int)) := hcq
    have hcq2 := keep_cell (below_alloc w9 (.cells #[.int .u8 48, .int .u8 49, .int .u8 50, .int .u8 51, .int .u8 52, .int .u8 53, .int .u8 54, .int .u8 55, .int .u8 56, .int .u8 57, .int .u8 46, .int .u8 101, .int .u8 69] 5 (13, 14))) hcq
    have HSET := hide (RB.lit w9 5 (fr := (13, 14)) #[.int .u8 48, .int .u8 49, .int .u8 50, .int .u8 51, .int .u8 52, .int .u8 53, .int .u8 54, .int .u8 55, .int .u8 56, .int .u8 57, .int .u8 46, .int .u8 101, .int .u8 69] Num.SET 13 rfl rfl)
    have HBW := hide (below_alloc w9 (.cells #[.int .u8 48, .int .u8 49, .int .u8 50, .int .u8 51, .int .u8 52, .int .u8 53, .int .u8 54, .int .u8 55, .int .u8 56, .int .u8 57, .int .u8 46, .int .u8 101, .int .u8 69] 5 (13, 14)))
    cases hs : Num.SET.contains x with
    | false =>
      rw [hgood (fun c hc => by simp at hc; subst hc; exact Or.inl hs)]
      have HS := hide hs
      clear hgood hs
      go_wp2_with fail
      refine Calls.mono (contains_any _ _ _ Num.SET x _ HSET.out (by omega)) ?_
      rintro e w10 ⟨rfl, q, rfl⟩
      rw [HS.out]
      go_wp2_with fail
      go_ret
      exact ⟨by simp, below_then (below_then HB9.out HBW.out) (below_drewN _ _)⟩
    | true =>
      by_cases hz : z = 0 ∧ Num.isDig x = true
      · rw [hgood (fun c hc => by simp at hc; subst hc; exact Or.inr hz)]
        obtain ⟨rfl, hd⟩ := hz
        have hd2 : 48 ≤ x.toNat ∧ x.toNat ≤ 57 := by simpa [Num.isDig] using hd
        obtain ⟨d1, d2⟩ := hd2
        have HS := hide hs
        clear hgood hs hd
        go_wp2_with fail
        refine Calls.mono (contains_any _ _ _ Num.SET x _ HSET.out (by omega)) ?_
        rintro e w10 ⟨rfl, q, rfl⟩
        rw [HS.out]
        go_wp2_with fail
        go_ret
        exact ⟨by simp, below_then (below_then HB9.out HBW.out) (below_drewN _ _)⟩
      · have hbad := fun (N E : Int) => Num.back_bad P z x R hs hz (N := N) (E := E)
        rw [HPL.out] at hbad
        have HS := hide hs
        obtain ⟨r, hr⟩ : ∃ r, Num.read (P ++ (Num.print z ++ x :: R)) (n2 : Int) = r := ⟨_, rfl⟩
        obtain ⟨N, E, e⟩ := r
        rw [hr]
        have hend : e = 0 → ((n2 + (Num.print z).length : Nat) : Int) < E := fun h => hbad N E (by rw [hr, h])
        have HZ := hide hz
        clear hgood hs hbad hr hz
        have HE := hide hend
        clear hend
        by_cases hz : z = 0
        · subst hz
          have hd : ¬ (48 ≤ x.toNat ∧ x.toNat ≤ 57) := fun h => HZ.out ⟨rfl, by simpa [Num.isDig] using h⟩
          have HD := hide hd
          clear hd
          by_cases d1 : 48 ≤ x.toNat
          · have d2 : ¬ x.toNat ≤ 57 := fun h => HD.out ⟨d1, h⟩
            by_cases he : e = 0
            · subst he
              go_wp2_with fail
              refine Calls.mono (contains_any _ _ _ Num.SET x _ HSET.out (by omega)) ?_
              rintro e w10 ⟨rfl, q, rfl⟩
              rw [HS.out]
              go_wp2_with fail
              go_ret
              have hE := HE.out (by first | exact rfl | trivial)
              exact ⟨by first | (simp; done) | (simp; omega), below_then (below_then HB9.out HBW.out) (below_drewN _ _)⟩
            · have hne0 : (e == 0) = false := by rw [beq_eq_false_iff_ne]; exact he
              go_wp2_with fail
              refine Calls.mono (contains_any _ _ _ Num.SET x _ HSET.out (by omega)) ?_
              rintro e2 w10 ⟨rfl, q, rfl⟩
              rw [HS.out]
              go_wp2_with fail
              go_ret
              exact ⟨by simp, below_then (below_then HB9.out HBW.out) (below_drewN _ _)⟩
          · by_cases he : e = 0
            · subst he
              go_wp2_with fail
              refine Calls.mono (contains_any _ _ _ Num.SET x _ HSET.out (by omega)) ?_
              rintro e w10 ⟨rfl, q, rfl⟩
              rw [HS.out]
              go_wp2_with fail
              go_ret
              have hE := HE.out (by first | exact rfl | trivial)
              exact ⟨by first | (simp; done) | (simp; omega), below_then (below_then HB9.out HBW.out) (below_drewN _ _)⟩
            · have hne0 : (e == 0) = false := by rw [beq_eq_false_iff_ne]; exact he
              go_wp2_with fail
              refine Calls.mono (contains_any _ _ _ Num.SET x _ HSET.out (by omega)) ?_
              rintro e2 w10 ⟨rfl, q, rfl⟩
              rw [HS.out]
              go_wp2_with fail
              go_ret
              exact ⟨by simp, below_then (below_then HB9.out HBW.out) (below_drewN _ _)⟩
        · have hz0 : (z == 0) = false := by rw [beq_eq_false_iff_ne]; exact hz
          by_cases he : e = 0
          · subst he
            go_wp2_with fail
            refine Calls.mono (contains_any _ _ _ Num.SET x _ HSET.out (by omega)) ?_
            rintro e w10 ⟨rfl, q, rfl⟩
            rw [HS.out]
            go_wp2_with fail
            go_ret
            have hE := HE.out (by first | exact rfl | trivial)
            exact ⟨by first | (simp; done) | (simp; omega), below_then (below_then HB9.out HBW.out) (below_drewN _ _)⟩
          · have hne0 : (e == 0) = false := by rw [beq_eq_false_iff_ne]; exact he
            go_wp2_with fail
            refine Calls.mono (contains_any _ _ _ Num.SET x _ HSET.out (by omega)) ?_
            rintro e2 w10 ⟨rfl, q, rfl⟩
            rw [HS.out]
            go_wp2_with fail
            go_ret
            exact ⟨by simp, below_then (below_then HB9.out HBW.out) (below_drewN _ _)⟩
/-! ### the row's step, written by program after the guide's skeleton -/
theorem own : ownKnob Try.prog.godebug = none := by kernel_rfl
theorem laidOut : laidOutB Try.prog = true := by kernel_rfl
set_option maxRecDepth 100000 in
theorem lifted (os : Os) (started : os.Started) (H : Type) (enc : TypeId × Value → H) :
    ReturnsInHanded {} Try.checked os 8 .any (Rows.numeralBackSpec.pre6 enc Try.prog Try.f8 Rows.numeralBackRow.domain false) (Rows.numeralBackSpec.post enc Try.prog Try.f8 false true false false) := by
  refine returnsInHanded_of_change (C := Try.checked) own started (by kernel_rfl) Try.func8
    (ChangeSpec.witness6 (enc := enc) (C := Try.checked) false ⟨#[], #[.slice none 0 0, .int .i64 0, .slice none 0 0], []⟩ 8 (by kernel_rfl) (by kernel_rfl) (by kernel_rfl) (by kernel_rfl)) ?_
  intro W base args ds gs before hval0 hW hcnd _
  have hval : ∀ (j : Nat) t v, Try.f8.params[j]? = some t → args[j]? = some v → Value.okWide Try.prog W .any base t v := hval0
  have hW' := hW
  obtain ⟨p, q, hA0, hV, rfl, hfz, hnd⟩ := hW
  have hA : DataW.TrodAll enc Try.prog W 0 (fun _ => true) true Try.f8.params.toList args.toList ds p := hA0
  rw [Try.params8] at hA hval
  obtain ⟨v0, vs0, d0, ds0, p0, q0, hargs, rfl, rfl, h0, r0⟩ := trodAll_cons hA
  obtain ⟨v1, vs1, d1, ds1, p1, q1, rfl, rfl, rfl, h1, r1⟩ := trodAll_cons r0
  obtain ⟨v2, vs2, d2, ds2, p2, q2, rfl, rfl, rfl, h2, r2⟩ := trodAll_cons r1
  obtain ⟨rfl, rfl, rfl⟩ := trodAll_nil r2
  obtain rfl : args = #[v0, v1, v2] := by cases args; simp_all
  obtain ⟨rfl, rfl⟩ := trodVars_none hV
  have k0 := h0
  have lt0 := trod_lt' k0
  obtain ⟨a0, n0, c0, l0, rfl, w0⟩ := arg_bytes Try.underlying32 Try.underlying5 (by kernel_rfl) (hval 0 32 v0 rfl rfl) h0
  obtain ⟨a1, rfl, rfl, rfl, w1⟩ := open_int Try.underlying2 (hval 1 2 v1 rfl rfl) h1
  have k2 := h2
  have lt2 := trod_lt' k2
  obtain ⟨a2, n2, c2, l2, rfl, w2⟩ := arg_bytes Try.underlying32 Try.underlying5 (by kernel_rfl) (hval 2 32 v2 rfl rfl) h2
  clear hA0 hval0
  refine (walk a0 n0 c0 l0 a1 a2 n2 c2 l2 W w0 w1 w2).mono fun e W' ⟨he, bel⟩ => ?_
  subst he
  exact ⟨_, rfl, _, _, _, [], _, [], hW', trodAll_mk1 (shut_bool Try.underlying4 _), (trodAll_cons_mk (Below.trod laidOut (by kernel_rfl) (of_decide_eq_true (by kernel_rfl)) k0 bel lt0) (trodAll_cons_mk (shut_int Try.underlying2 w1) (trodAll_cons_mk (Below.trod laidOut (by kernel_rfl) (of_decide_eq_true (by kernel_rfl)) k2 bel lt2) trodAll_mk0))), rfl, bel.frame _, fun h => by cases h⟩

theorem over : Rows.numeralBackRow.holds Try.pinned (OpenSpec.ofChange Rows.numeralBackSpec) :=
  OpenClaim.holds_of_wide 8 Try.f8 rfl rfl rfl rfl rfl rfl rfl ⟨rfl, rfl, rfl, rfl, rfl⟩ rfl rfl rfl rfl rfl (by kernel_rfl) Try.func8 (by kernel_rfl)
    (of_decide_eq_true (by kernel_rfl)) (by unfold Func.isWrapper; first | (rw [if_pos (by decide +kernel)]; kernel_rfl) | (rw [if_neg (by decide +kernel)]; exact ⟨rfl, rfl⟩))
    (fun os started H enc _ => lifted os started H enc)

theorem proved : Rows.NumeralBackSaid := over
end Go.Proofs.Ytciakpfnmkoghaa.LawNumeralBack
