/- Proved: davenportlaw01.UtfPuts returns true for every input: Size and Put encode any code point after any bytes, and reject every other number. The card ties the package variable that the walk reads to the program's text. -/
import Derived.Test.YtheoadempenpaaaDoorRows
import Derived.Test.YtheoadempenpaaaDoorCards
import Derived.Test.YtheoadempenpaaaDoorTie
import Derived.Test.YtheoadempenpaaaDoorOpen
import Derived.Test.YtheoadempenpaaaDoorFew
import Derived.Test.YtheoadempenpaaaDoorUtfLaid
import Derived.Test.YtheoadempenpaaaDoorUtfWakes
import Derived.Test.YtheoadempenpaaaDoorUtfRef
import Derived.SevenTiedAt
import Derived.BigFrame
namespace Go.Proofs.YtheoadempenpaaaDoor.LawUtfPuts
open Go.ChangeShapes Go.WideShapes Go.ChangeAt Go.RowKit
open Go.ChangeMaps (open_string shut_string)

theorem wpList_append_want {P : Program} {w : World} {ops : Array Oper} {rest : List Oper} {o : Oper} {a : Act} {Q : Exit → Act → World → Prop} (hgd : Region.wanted o (yielded ops a.tmps) = true) (s x : Operand) (t : TypeId)
    (ho : o.op = .call { callee := .builtin .append, args := #[s, x], argTypes := #[t, t] })
    (base : Nat) (e : TypeId) (i : TypeInfo) (z : Value) (size bytes : Nat) (ht : P.underlying t = some (.slice e)) (hi : P.info? e = some i) (hz : i.zero = some z)
    (hsize : i.size = size) (hby : i.bytes = bytes) (hzs : z.cells.size = size) (hsz : 0 < size)
    (v : Value) (n : Nat) (xs : List Value) (hs : a.eval s = v) (hown : w.ownsRow base e size v n xs)
    (B : Nat) (A : Option Addr) (m c : Nat) (news : List Value) (hx : a.eval x = .slice A m c) (hr : Reads w B size A m news) (h1 : ∀ u ∈ news, u.oneCell' = true)
    (h63 : n + m ≤ maxLen) (hbytes : (n + m) * bytes ≤ 140737488355328) (hbase : base ≤ w.heap.size)
    (h : ∀ v' w', w'.ownsRow base e size v' (n + m) (xs ++ news) → w.grownBy w' v.ownBlock → (v'.ownBlock = v.ownBlock ∨ v'.ownBlock = some w.heap.size) → wpList P ops Q rest (a.put o.dst v') w') : wpList P ops Q (o :: rest) a w :=
  Go.BigFrame.wpList_want hgd fun _ hK => wp_append_reads s x t ho base e i z size bytes ht hi hz hsize hby hzs hsz v n xs hs hown B A m c news hx hr h1 h63 hbytes hbase fun v' w' h2 h3 h4 => hK _ _ (h v' w' h2 h3 h4)
set_option maxHeartbeats 8000000 in
theorem walk (A : Option Addr) (n c : Nat) (l : List UInt8) (cp : Int) (w : World) (hA : Arg w A n c l) (_w1 : (Lit.int .i64 cp).wf = true) (hg : Gl w) :
    Calls Tryd.prog 4 #[.slice A n c, .int .i64 cp] w fun e w' => e = .returned (.bool true) ∧ Below w.heap.size w w' := by
  obtain ⟨i0, hti, hz0, hz1, hz2⟩ := info_parts u8_info
  obtain ⟨hr, hnc, hc⟩ := hA
  have HR := hide hr
  have HG := hide hg
  have HC := hide (And.intro hnc hc)
  clear hr hnc hc hg
  go_enter Tryd.func4, Tryd.ntmps4
  go_wp2_with fail
  refine Calls.mono (wakes_any _ HG.out) ?_
  rintro e w1 ⟨rfl, hb1⟩
  have HB1 := hide hb1
  clear hb1
  go_wp2_with fail
  refine Calls.mono (few_rb A n c l _ (HR.out.on HB1.out) HC.out.1 HC.out.2) ?_
  rintro e w2 ⟨A2, n2, c2, rfl, hr2, hn2, hc2, hm2, hb2⟩
  generalize hL : l.take FEW = L at *
  have HL := hide hL
  have HB2 := hide (below_then HB1.out hb2)
  have HR2 := hide hr2
  have HN2 := hide (And.intro hn2 (And.intro hc2 hm2))
  clear hL hb2 hr2 hn2 hc2 hm2 HB1
  go_wp2_with fail
  refine Calls.mono (Put_any A2 n2 c2 cp L _ HR2.out (by have := HN2.out.1; omega)) ?_
  rintro e w3 ⟨hb3, he⟩
  have HB3 := hide (below_then HB2.out hb3)
  have HR3 := hide (HR2.out.on hb3)
  clear hb3 HB2 HR2
  cases hcp : Utf.isCp cp with
  | false =>
    rw [hcp, if_neg (by simp)] at he
    subst he
    have HCP := hide hcp
    have hz : Utf.sz cp = 0 := by
      rcases Nat.eq_zero_or_pos (Utf.sz cp) with h1 | h1
      · exact h1
      · have := Utf.sz_pos.1 h1; rw [hcp] at this; cases this
    clear hcp
    go_wp2_with fail
    refine Calls.mono (rIs_any cp _) ?_
    rintro e w4 ⟨rfl, rfl⟩
    rw [HCP.out]
    go_wp2_with fail
    refine Calls.mono (Size_any cp _) ?_
    rintro e w5 ⟨rfl, rfl⟩
    rw [hz]
    go_wp2_with fail
    go_ret
    exact ⟨rfl, HB3.out⟩
  | true =>
    rw [hcp, if_pos rfl] at he
    have h0 := Utf.isCp_iff.1 hcp
    obtain ⟨p, rfl⟩ : ∃ p : Nat, cp = (p : Int) := ⟨cp.toNat, by omega⟩
    rw [Int.toNat_natCast] at he
    obtain ⟨v3, rfl, ho3⟩ := he
    have hlen := Utf.enc_len hcp
    have HSZ := hide hlen
    have hm4 := Utf.sz_le (p : Int)
    have HCP := hide hcp
    obtain ⟨A3, c3, rfl, hc3, hm3, hr3⟩ := own_slice ho3
    obtain ⟨m, hm⟩ : ∃ m, m = (Utf.enc p).length := ⟨_, rfl⟩
    rw [← hm] at hr3 hlen ⊢
    have HM := hide hm
    have hm5 : m ≤ 4 := by omega
    have HO3 : Hid (RB w3 A3 (n2 + m) (L ++ Utf.enc p)) := hide hr3
    clear hcp h0 ho3 hc3 hm3 hr3 hm4 hm
    go_wp2_with fail
    refine Calls.mono (rIs_any (p : Int) _) ?_
    rintro e w4 ⟨rfl, rfl⟩
    rw [HCP.out]
    go_wp2_with fail
    refine Calls.mono (rBytes_any p _ HCP.out) ?_
    rintro e w5 ⟨A5, c5, rfl, hr5, hc5, hm55, hb5⟩
    rw [← HM.out] at hr5 hc5 ⊢
    have HB5 := hide (below_then HB3.out hb5)
    have HR5 := hide (HR3.out.on hb5)
    have HO5 := hide (HO3.out.on hb5)
    have HW5 := hide hr5
    clear hb5 hr5 hc5 hm55 HB3 HR3 HO3
    go_wp2_with fail
    refine Calls.mono (Size_any (p : Int) _) ?_
    rintro e w6 ⟨rfl, rfl⟩
    rw [← hlen]
    have hmm : ((m : Int) == (m : Int)) = true := by simp
    clear hlen
    go_wp2_with fail
    refine Calls.mono (few_any A n c l _ (HR.out.on HB5.out) HC.out.1 (by have := HC.out.2; have := HC.out.1; unfold maxLen at *; omega)) ?_
    rintro e w7 ⟨v7, rfl, ho7, hb7⟩
    rw [HL.out] at ho7
    have hn7 : min n FEW = n2 := by
      have h1 := ho7.1
      rw [bytes_len, Nat.mul_one] at h1
      rw [← h1]; exact HR5.out.len
    rw [hn7] at ho7
    have HB7 := hide (below_then HB5.out hb7)
    have HR7 := hide (HR5.out.on hb7)
    have HO7 := hide (HO5.out.on hb7)
    have HW7 := hide (HW5.out.on hb7)
    have HV7 := hide ho7
    have hS7 := hb7.size
    have HN3 := hide (show n2 ≤ 300 from HN2.out.1)
    have hn300 := HN3.out
    have HB5s := HB5
    have HB75 := hide hb7
    have HO5s := HO5
    have HR5s := HR5
    clear hn7 ho7 hb7 HB5 HR5 HO5 HW5
    go_wp2_with (at_builtin; go_loud (refine wpList_append_want (by first | rfl | (simp [Region.wanted, yielded]; done) | (go_simp; done)) (.tmp 48) (.tmp 49) _ rfl _ 5 i0 (.int .u8 0) 1 1 Tryd.underlying24 hti hz0 hz1 hz2 rfl (by omega) v7 n2 (bytes L) rfl HV7.out w7.heap.size A5 m c5 (bytes (Utf.enc p)) rfl HW7.out bytes_one (by unfold maxLen; omega) (by omega) hS7 ?_); intro v8 w8 hown8 hg8 hat8)
    obtain ⟨A8, c8, rfl, hc8, hm8, hr8⟩ := own_slice hown8
    have HO8 : Hid (RB w8 A8 (n2 + m) (L ++ Utf.enc p)) := hide (by rw [RB, bytes_append]; exact hr8)
    have hbl := (Below.refl _ w7).grown hg8 hS7 fun j hj => (HV7.out.lt j hj).1
    have HB8 := hide (below_then HB5s.out (HB75.out.trans hbl))
    have HO38 := hide (HO5s.out.on (HB75.out.trans hbl))
    have HR8 := hide (HR5s.out.on (HB75.out.trans hbl))
    clear hown8 hg8 hat8 hc8 hm8 hr8 hbl hS7 HV7 HW7 HO7 HR7 HB7
    refine Calls.mono (equal_b A3 A8 (n2 + m) (n2 + m) c3 c8 _ _ _ HO38.out HO8.out (by omega) (by omega)) ?_
    rintro e w9 ⟨rfl, hb9⟩
    rw [decide_eq_true rfl]
    have HB9 := hide (below_then HB8.out hb9)
    have HR9 := hide (HR8.out.on hb9)
    clear hb9 HB8 HR8 HO38 HO8
    go_wp2_with fail
    refine Calls.mono (few_rb A n c l _ (HR.out.on HB9.out) HC.out.1 HC.out.2) ?_
    rintro e w10 ⟨A10, n10, c10, rfl, hr10, hn10, hc10, hm10, hb10⟩
    rw [HL.out] at hr10
    have HR10 := hide hr10
    have HB10 := hide (below_then HB9.out hb10)
    have HRR := hide (HR9.out.on hb10)
    have HN10 := hide hn10
    clear hb10 hr10 hn10 hc10 hm10 HB9 HR9
    go_wp2_with fail
    refine Calls.mono (equal_b A2 A10 n2 n10 c2 c10 L L _ HRR.out HR10.out (by omega) (by have := HN10.out; omega)) ?_
    rintro e w11 ⟨rfl, hb11⟩
    rw [decide_eq_true rfl]
    go_wp2_with fail
    go_ret
    exact ⟨rfl, below_then HB10.out hb11⟩
/-! ### the row's step, written by program after the guide's skeleton -/
theorem own : ownKnob Tryd.prog.godebug = none := by kernel_rfl
theorem laidOut : laidOutB Tryd.prog = true := by kernel_rfl
set_option maxRecDepth 100000 in
theorem lifted (os : Os) (started : os.Started) (H : Type) (enc : TypeId × Value → H) :
    ReturnsInHanded {} Tryd.checked os 4 .any (fun w args => (Rows.utfPutsSpec.pre enc Tryd.prog Tryd.f4 [] false w args ∧ laidMetH Tryd.prog laidL w) ∧ sizedMet enc Tryd.prog Tryd.f4 (OpenSpec.ofChange Rows.utfPutsSpec) false w args) (Rows.utfPutsSpec.post enc Tryd.prog Tryd.f4 false true false false) := by
  refine returnsInHanded_of_change_and (C := Tryd.checked) (X := fun w _ => laidMetH Tryd.prog laidL w) (fun _ _ _ hh h => h.of_heap hh) own started (by kernel_rfl) Tryd.func4
    (ChangeSpec.witness_shaped (enc := enc) (C := Tryd.checked) (os := os) (X := fun w _ => laidMetH Tryd.prog laidL w) false (World.doorLaid Tryd.prog 400 os) #[.slice none 0 0, .int .i64 0] 8 rfl (World.shaped_of_RefB (by kernel_rfl) (by kernel_rfl)) (by kernel_rfl) (by kernel_rfl) (by kernel_rfl) (door_met os _)) ?_
  intro W base args ds gs before hval0 hW _ _ hL _
  have hGl := gl_of_laid hL
  have hval : ∀ (j : Nat) t v, Tryd.f4.params[j]? = some t → args[j]? = some v → Value.okWide Tryd.prog W .any base t v := hval0
  have hW' := hW
  obtain ⟨p, q, hA0, hV, rfl, hfz, hnd⟩ := hW
  have hA : DataW.TrodAll enc Tryd.prog W 0 (fun _ => true) true Tryd.f4.params.toList args.toList ds p := hA0
  rw [Tryd.params4] at hA hval
  obtain ⟨v0, vs0, d0, ds0, p0, q0, hargs, rfl, rfl, h0, r0⟩ := trodAll_cons hA
  obtain ⟨v1, vs1, d1, ds1, p1, q1, rfl, rfl, rfl, h1, r1⟩ := trodAll_cons r0
  obtain ⟨rfl, rfl, rfl⟩ := trodAll_nil r1
  obtain rfl : args = #[v0, v1] := by cases args; simp_all
  obtain ⟨rfl, rfl⟩ := trodVars_none hV
  have k0 := h0
  have lt0 := trod_lt' k0
  obtain ⟨a0, n0, c0, l0, rfl, w0⟩ := arg_bytes Tryd.underlying24 Tryd.underlying5 (by kernel_rfl) (hval 0 24 v0 rfl rfl) h0
  obtain ⟨a1, rfl, rfl, rfl, w1⟩ := open_int Tryd.underlying3 (hval 1 3 v1 rfl rfl) h1
  clear hA0 hval0
  refine (walk a0 n0 c0 l0 a1 W w0 w1 hGl).mono fun e W' ⟨he, bel⟩ => ?_
  subst he
  exact ⟨_, rfl, _, _, _, [], _, [], hW', trodAll_mk1 (shut_bool Tryd.underlying4 _), (trodAll_cons_mk (Below.trod laidOut (by kernel_rfl) (of_decide_eq_true (by kernel_rfl)) k0 bel lt0) (trodAll_cons_mk (shut_int Tryd.underlying3 w1) trodAll_mk0)), rfl, bel.frame _, fun h => by cases h⟩

theorem over : Rows.utfPutsRow.holds Tryd.pinned (OpenSpec.ofChange Rows.utfPutsSpec) :=
  OpenClaim.holds_of_wide 4 Tryd.f4 rfl rfl rfl rfl rfl rfl rfl ⟨rfl, rfl, rfl, rfl, rfl⟩ rfl rfl rfl rfl rfl (by kernel_rfl) Tryd.func4 (by kernel_rfl)
    (of_decide_eq_true (by kernel_rfl)) (by unfold Func.isWrapper; first | (rw [if_pos (by decide +kernel)]; kernel_rfl) | (rw [if_neg (by decide +kernel)]; exact ⟨rfl, rfl⟩))
    (fun os started H enc _ => lifted os started H enc)

/-- the tied card, closed by the builder -/
theorem proved : Rows.UtfPutsCardSaid :=
  Claim7.holds_tied_plain_at .later [] [.data] true (true, "5db38756cb098dae97c1566c1026846fa7771e753dcd2c8b6f1b86bf2868e610") false
    over (fun _ h => by cases h) (by kernel_rfl) (fun _ h => by cases h) utfPuts_row_tie rfl ⟨rfl, rfl⟩ (by kernel_rfl) rfl
    (fun f fn hf hfn => by
      obtain rfl : f = 4 := Option.some.inj ((show Tryd.prog.funcNamed "davenport/davenportlaw01.UtfPuts" = some 4 by kernel_rfl).symm.trans hf) |>.symm
      obtain rfl : fn = Tryd.f4 := (Option.some.inj (Tryd.func4.symm.trans hfn)).symm
      exact ⟨by kernel_rfl, fun j t ht => by
        rw [Tryd.params4] at ht
        rcases j with _ | j
        · obtain rfl : 24 = t := by simpa using ht
          exact (show Tryd.prog.wantsStandIn 24 = false by kernel_rfl)
        rcases j with _ | j
        · obtain rfl : 3 = t := by simpa using ht
          exact (show Tryd.prog.wantsStandIn 3 = false by kernel_rfl)
        · simp at ht⟩)
    (by kernel_rfl)
end Go.Proofs.YtheoadempenpaaaDoor.LawUtfPuts
