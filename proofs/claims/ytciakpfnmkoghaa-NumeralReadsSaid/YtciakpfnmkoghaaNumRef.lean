/- Walks of the reference's is, run, End, Number. -/
import Derived.Test.YtciakpfnmkoghaaNumPlain
import Derived.Test.YtciakpfnmkoghaaNumPrint
import Derived.Test.YtciakpfnmkoghaaNumSees
import Derived.Deep.DeepCutAuto
namespace Go.Proofs.Ytciakpfnmkoghaa
open Go.RowKit
open Num (isAt)

theorem is_any (A : Option Addr) (n c : Nat) (l : List UInt8) (i : Nat) (S : ByteArray) (w : World) (h : RB w A n l) (_hn : n ≤ 1048576) (_hi : i ≤ 4194304) (hS : S.size ≤ 100) :
    Calls Try.prog 22 #[.slice A n c, .int .i64 i, .string S] w fun e w' => e = .returned (.bool (isAt l i S.data.toList)) ∧ ∃ q, w' = w.drewN q := by
  have HN := hide h.len
  by_cases hlt : i < n
  · have hal : i < l.length := by rw [HN.out]; exact hlt
    obtain ⟨b, o, rfl, hb, hc⟩ := h.cell hal
    have HI := hide (Num.isAt_get (S := S.data.toList) hal)
    generalize hx : l[i] = x at *
    have HH := hide h
    clear h hx
    go_enter Try.func22, Try.ntmps22
    go_wp2
    go_loopw [7] (fun i wr => ∃ j q : Nat, j ≤ S.size ∧ i = .int .i64 j ∧ wr = w.drewN q ∧ Hid ((S.data.toList.take j).contains x = false)) (fun i _ => S.size - (intOf i).toNat)
    case atStart => exact ⟨0, 0, Nat.zero_le _, rfl, rfl, hide rfl⟩
    case round =>
      obtain ⟨j, q, hj, rfl, rfl, heq⟩ := hrel
      by_cases hjl : j < S.size
      · have hts := isAt_take_succ S x j hjl
        have hj0 : (0 : Int) ≤ (j : Int) := by omega
        have hj1 : (j : Int) < (S.size : Int) := by omega
        have hi0 : (0 : Int) ≤ (i : Int) := by omega
        have hi1 : (i : Int) < (n : Int) := by omega
        by_cases hxs : x = S[j]
        · have ht : ((S[j].toNat : Int) == (x.toNat : Int)) = true := by rw [hxs]; simp
          have HC := hide (show S.data.toList.contains x = true by
            rw [List.contains_iff_mem]
            have : S.data.toList[j]'(by simpa using hjl) ∈ S.data.toList := List.getElem_mem _
            rw [hxs]; exact this)
          clear hxs hts
          go_wp2_with fail
          go_quiet (fail)
          go_wp2
          go_ret
          exact ⟨by rw [HI.out, HC.out]; rfl, q + nq, (by first | rfl | exact World.drewN_drewN ..)⟩
        · have ht : ((S[j].toNat : Int) == (x.toNat : Int)) = false := by
            rw [beq_eq_false_iff_ne]
            intro e
            exact hxs (UInt8.toNat_inj.1 (by omega))
          have HC := hide (show (S.data.toList.take (j + 1)).contains x = false by
            rw [hts, heq.out]; simpa using hxs)
          clear hxs hts
          go_wp2_with fail
          go_quiet (fail)
          go_wp2
          go_roundw
          case rel => exact ⟨j + 1, q + nq, by omega, by go_num, (by first | rfl | exact World.drewN_drewN ..), HC⟩
          case measure => simp [intOf]; omega
      · obtain rfl : j = S.size := by omega
        have HE := hide (show S.data.toList.contains x = false by
          have := heq.out
          rwa [List.take_of_length_le (by simp)] at this)
        go_wp2
        go_ret
        exact ⟨by rw [HI.out, HE.out]; rfl, q, rfl⟩
  · have HI := hide (Num.isAt_no (l := l) (i := i) (S := S.data.toList) (by have := HN.out; omega))
    have hg2 : (n : Int) ≤ (i : Int) := by omega
    have HH := hide h
    clear h
    go_enter Try.func22, Try.ntmps22
    go_wp2
    go_ret
    exact ⟨by rw [HI.out]; rfl, 0, rfl⟩

/-- the place behind all digits -/
def runEnd (l : List UInt8) (i : Nat) : Nat := i + ((l.drop i).takeWhile Num.isDig).length
theorem runEnd_step {l : List UInt8} {i : Nat} (h : isAt l i Num.DIGITS = true) : runEnd l (i + 1) = runEnd l i := by
  have hl := Num.isAt_lt h
  rw [Num.isAt_get hl, Num.digits_has] at h
  unfold runEnd
  rw [List.drop_eq_getElem_cons hl, List.takeWhile_cons, h]
  simp only [ite_true, List.length_cons]; omega
theorem runEnd_end {l : List UInt8} {i : Nat} (h : isAt l i Num.DIGITS = false) : runEnd l i = i := by
  unfold runEnd
  by_cases hl : i < l.length
  · rw [Num.isAt_get hl, Num.digits_has] at h
    rw [List.drop_eq_getElem_cons hl, List.takeWhile_cons, h]; rfl
  · rw [List.drop_eq_nil_of_le (by omega)]; rfl
theorem runEnd_le {l : List UInt8} {i : Nat} (h : i ≤ l.length) : runEnd l i ≤ l.length := by
  unfold runEnd
  have h1 : ((l.drop i).takeWhile Num.isDig).length ≤ (l.drop i).length := (List.takeWhile_sublist _).length_le
  rw [List.length_drop] at h1
  omega

theorem run_any (A : Option Addr) (n c : Nat) (l : List UInt8) (i : Nat) (w : World) (h : RB w A n l) (hn : n ≤ 1048576) (hi : i ≤ 1048580) :
    Calls Try.prog 23 #[.slice A n c, .int .i64 i] w fun e w' => e = .returned (.int .i64 (runEnd l i : Nat)) ∧ ∃ q, w' = w.drewN q := by
  have HN := hide h.len
  have HH := hide h
  clear h
  go_enter Try.func23, Try.ntmps23
  go_wp2
  go_loopw [1] (fun t wr => ∃ j q : Nat, j ≤ i + n ∧ t = .int .i64 j ∧ wr = w.drewN q ∧ Hid (runEnd l j = runEnd l i)) (fun t _ => n - (intOf t).toNat)
  case atStart => exact ⟨i, 0, by omega, rfl, rfl, hide rfl⟩
  case round =>
    obtain ⟨j, q, hj, rfl, rfl, heq⟩ := hrel
    by_cases hd : isAt l j Num.DIGITS = true
    · have HD := hide hd
      have hlt := Num.isAt_lt hd
      rw [HN.out] at hlt
      have HS := hide (runEnd_step hd)
      clear hd
      go_wp2_with fail
      refine Calls.mono (is_any A n c l j (ByteArray.mk #[48, 49, 50, 51, 52, 53, 54, 55, 56, 57]) _ HH.out hn (by omega) (by decide)) ?_
      rintro e w1 ⟨rfl, q1, rfl⟩
      rw [show isAt l j (ByteArray.mk #[48, 49, 50, 51, 52, 53, 54, 55, 56, 57]).data.toList = true from HD.out]
      go_wp2_with fail
      go_roundw
      case rel => exact ⟨j + 1, q + q1, by omega, by go_num, (by first | rfl | exact World.drewN_drewN ..), hide (HS.out.trans heq.out)⟩
      case measure => simp [intOf]; omega
    · have HD := hide (Bool.eq_false_iff.2 hd)
      clear hd
      go_wp2_with fail
      refine Calls.mono (is_any A n c l j (ByteArray.mk #[48, 49, 50, 51, 52, 53, 54, 55, 56, 57]) _ HH.out hn (by omega) (by decide)) ?_
      rintro e w1 ⟨rfl, q1, rfl⟩
      rw [show isAt l j (ByteArray.mk #[48, 49, 50, 51, 52, 53, 54, 55, 56, 57]).data.toList = false from HD.out]
      go_wp2_with fail
      go_ret
      exact ⟨by rw [← heq.out, runEnd_end HD.out]; rfl, q + q1, (by first | rfl | exact World.drewN_drewN ..)⟩
/-- what End yields -/
def refExp (l : List UInt8) (e : Nat) (plain : Bool) : Nat × Bool × Bool :=
  if isAt l e [101, 69] then
    let a := if isAt l (e + 1) [43, 45] then e + 1 + 1 else e + 1
    let e := runEnd l a
    if e = a then (a, false, false) else (e, false, true)
  else (e, plain, true)
def refFrac (l : List UInt8) (e : Nat) : Nat × Bool × Bool :=
  if isAt l e [46] then
    let a := e + 1
    let e := runEnd l a
    if e = a then (a, false, false) else refExp l e false
  else refExp l e true
def refEnd (l : List UInt8) (i : Nat) : Nat × Bool × Bool :=
  let a := if isAt l i [45] then i + 1 else i
  let e := runEnd l a
  if e = a then (a, false, false) else refFrac l (if isAt l a [48] then a + 1 else e)

def RetEnd (t : Nat × Bool × Bool) (w : World) (e : Ending) (w' : World) : Prop := e = .returned (.tuple #[.int .i64 (t.1 : Int), .bool t.2.1, .bool t.2.2]) ∧ ∃ q, w' = w.drewN q

theorem end_any (A : Option Addr) (n c : Nat) (l : List UInt8) (i : Nat) (w : World) (h : RB w A n l) (hn : n ≤ 1048576) (hi : i ≤ n) :
    Calls Try.prog 15 #[.slice A n c, .int .i64 i] w (RetEnd (refEnd l i) w) := by
  have HN := hide h.len
  have HH := hide h
  clear h
  go_enter Try.func15, Try.ntmps15
  go_upto_if 11 with (go_at_call 22; refine Calls.mono (is_any A n c l i (ByteArray.mk #[45]) _ HH.out hn (by omega) (by decide)) ?_; rintro e w1 ⟨rfl, q1, rfl⟩)
  go_cut [1] (fun s1 wx => ∃ a q : Nat, s1 = .int .i64 a ∧ a ≤ n ∧ Hid (a = if isAt l i [45] then i + 1 else i) ∧ wx = w.drewN q)
  case first =>
    by_cases hb : isAt l i (ByteArray.mk #[45]).data.toList = true
    · have hl := Num.isAt_lt hb
      rw [HN.out] at hl
      rw [hb]
      have HB := hide hb
      clear hb
      go_wp2_with fail
      go_meet
      exact ⟨i + 1, q1, by go_num, by omega, hide (by rw [if_pos HB.out]), rfl⟩
    · rw [Bool.eq_false_iff.2 hb]
      have HB := hide hb
      clear hb
      go_wp2_with fail
      go_meet
      exact ⟨i, q1, rfl, hi, hide (by rw [if_neg HB.out]), rfl⟩
  case rest =>
  obtain ⟨a, q, rfl, ha, HA, rfl⟩ := hcut
  have HE : Hid (refEnd l i = if runEnd l a = a then (a, false, false) else refFrac l (if isAt l a [48] then a + 1 else runEnd l a)) := hide (by unfold refEnd; rw [← HA.out])
  have hre := runEnd_le (l := l) (i := a) (by have := HN.out; omega)
  rw [HN.out] at hre
  go_upto_if 19 with (go_at_call 23; refine Calls.mono (run_any A n c l a _ HH.out hn (by omega)) ?_; rintro e w2 ⟨rfl, q2, rfl⟩)
  by_cases he : runEnd l a = a
  · have hd : ((runEnd l a : Int) == (a : Int)) = true := by rw [he]; simp
    have HX := hide he
    clear he
    go_wp2_with fail
    go_ret3
    exact ⟨by rw [HE.out, if_pos HX.out]; rfl, _, rfl⟩
  have hd : ((runEnd l a : Int) == (a : Int)) = false := by rw [beq_eq_false_iff_ne]; omega
  have HX := hide he
  clear he
  go_upto_if 23 with (go_at_call 22; refine Calls.mono (is_any A n c l a (ByteArray.mk #[48]) _ HH.out hn (by omega) (by decide)) ?_; rintro e w3 ⟨rfl, q3, rfl⟩)
  go_cut [7] (fun s7 wx => ∃ e q : Nat, s7 = .int .i64 e ∧ e ≤ n ∧ Hid (refEnd l i = refFrac l e) ∧ wx = w.drewN q)
  case first =>
    by_cases hb : isAt l a (ByteArray.mk #[48]).data.toList = true
    · have hl := Num.isAt_lt hb
      rw [HN.out] at hl
      rw [hb]
      have HB := hide hb
      clear hb
      go_wp2_with fail
      go_meet
      exact ⟨a + 1, q + q2 + q3, by go_num, by omega, hide (by rw [HE.out, if_neg HX.out, if_pos HB.out]), rfl⟩
    · rw [Bool.eq_false_iff.2 hb]
      have HB := hide hb
      clear hb
      go_wp2_with fail
      go_meet
      exact ⟨_, q + q2 + q3, rfl, hre, hide (by rw [HE.out, if_neg HX.out, if_neg HB.out]), rfl⟩
  case rest =>
  clear HE HX HA hd hre ha
  obtain ⟨e0, q4, rfl, he0, HE, rfl⟩ := hcut
  clear q q2 q3
  go_upto_if 28 with (go_at_call 22; refine Calls.mono (is_any A n c l e0 (ByteArray.mk #[46]) _ HH.out hn (by omega) (by decide)) ?_; rintro e w3 ⟨rfl, q3, rfl⟩)
  go_cut [7, 8] (fun s7 s8 wx => ∃ (e q : Nat) (p : Bool), s7 = .int .i64 e ∧ s8 = .bool p ∧ e ≤ n ∧ Hid (refEnd l i = refExp l e p) ∧ wx = w.drewN q)
  case first =>
    by_cases hb : isAt l e0 (ByteArray.mk #[46]).data.toList = true
    · have hl := Num.isAt_lt hb
      rw [HN.out] at hl
      rw [hb]
      have HE2 : Hid (refEnd l i = if runEnd l (e0 + 1) = e0 + 1 then (e0 + 1, false, false) else refExp l (runEnd l (e0 + 1)) false) := hide (by rw [HE.out]; unfold refFrac; rw [if_pos hb])
      have hre := runEnd_le (l := l) (i := e0 + 1) (by have := HN.out; omega)
      rw [HN.out] at hre
      clear hb
      go_upto_if 36 with (go_at_call 23; refine Calls.mono (run_any A n c l (e0 + 1) _ HH.out hn (by omega)) ?_; rintro e w2 ⟨rfl, q2, rfl⟩)
      by_cases he : runEnd l (e0 + 1) = e0 + 1
      · have hd : ((runEnd l (e0 + 1) : Int) == ((e0 : Int) + 1)) = true := by rw [he]; simp
        have HX := hide he
        clear he
        go_wp2_with fail
        go_ret3
        exact ⟨by rw [HE2.out, if_pos HX.out]; rfl, _, rfl⟩
      · have hd : ((runEnd l (e0 + 1) : Int) == ((e0 : Int) + 1)) = false := by rw [beq_eq_false_iff_ne]; omega
        have HX := hide he
        clear he
        go_wp2_with fail
        go_meet
        exact ⟨_, _, false, rfl, rfl, hre, hide (by rw [HE2.out, if_neg HX.out]), rfl⟩
    · rw [Bool.eq_false_iff.2 hb]
      have HE2 : Hid (refEnd l i = refExp l e0 true) := hide (by rw [HE.out]; unfold refFrac; rw [if_neg hb])
      clear hb
      go_wp2_with fail
      go_meet
      exact ⟨e0, _, true, rfl, rfl, he0, HE2, rfl⟩
  case rest =>
  clear HE he0 q4
  obtain ⟨e1, q5, p, rfl, rfl, he1, HE, rfl⟩ := hcut
  go_upto_if 40 with (go_at_call 22; refine Calls.mono (is_any A n c l e1 (ByteArray.mk #[101, 69]) _ HH.out hn (by omega) (by decide)) ?_; rintro e w3 ⟨rfl, q3, rfl⟩)
  by_cases hb : isAt l e1 (ByteArray.mk #[101, 69]).data.toList = true
  · have hl := Num.isAt_lt hb
    rw [HN.out] at hl
    rw [hb]
    have HE2 : Hid (∀ a, a = (if isAt l (e1 + 1) [43, 45] then e1 + 1 + 1 else e1 + 1) → refEnd l i = if runEnd l a = a then (a, false, false) else (runEnd l a, false, true)) := hide (fun a ha => by rw [HE.out, ha]; unfold refExp; rw [if_pos hb])
    clear hb
    go_upto_if 45 with (go_at_call 22; refine Calls.mono (is_any A n c l (e1 + 1) (ByteArray.mk #[43, 45]) _ HH.out hn (by omega) (by decide)) ?_; rintro e w3 ⟨rfl, q4, rfl⟩)
    go_cut [1] (fun s1 wx => ∃ a q : Nat, s1 = .int .i64 a ∧ a ≤ n ∧ Hid (a = (if isAt l (e1 + 1) [43, 45] then e1 + 1 + 1 else e1 + 1)) ∧ wx = w.drewN q)
    case first =>
      by_cases hb : isAt l (e1 + 1) (ByteArray.mk #[43, 45]).data.toList = true
      · have hl := Num.isAt_lt hb
        rw [HN.out] at hl
        rw [hb]
        have HB := hide hb
        clear hb
        go_wp2_with fail
        go_meet
        exact ⟨e1 + 1 + 1, _, by go_num, by omega, hide (by rw [if_pos HB.out]), rfl⟩
      · rw [Bool.eq_false_iff.2 hb]
        have HB := hide hb
        clear hb
        go_wp2_with fail
        go_meet
        exact ⟨e1 + 1, _, by go_num, by omega, hide (by rw [if_neg HB.out]), rfl⟩
    case rest =>
    obtain ⟨a2, q6, rfl, ha2, HA2, rfl⟩ := hcut
    have HE3 := hide (HE2.out a2 HA2.out)
    clear HA2 HE2 HE
    have hre := runEnd_le (l := l) (i := a2) (by have := HN.out; omega)
    rw [HN.out] at hre
    go_upto_if 53 with (go_at_call 23; refine Calls.mono (run_any A n c l a2 _ HH.out hn (by omega)) ?_; rintro e w2 ⟨rfl, q2, rfl⟩)
    by_cases he : runEnd l a2 = a2
    · have hd : ((runEnd l a2 : Int) == (a2 : Int)) = true := by rw [he]; simp
      have HX := hide he
      clear he
      go_wp2_with fail
      go_ret3
      exact ⟨by rw [HE3.out, if_pos HX.out]; rfl, _, rfl⟩
    · have hd : ((runEnd l a2 : Int) == (a2 : Int)) = false := by rw [beq_eq_false_iff_ne]; omega
      have HX := hide he
      clear he
      go_wp2_with fail
      go_ret3
      exact ⟨by rw [HE3.out, if_neg HX.out]; rfl, _, rfl⟩
  · rw [Bool.eq_false_iff.2 hb]
    have HE2 : Hid (refEnd l i = (e1, p, true)) := hide (by rw [HE.out]; unfold refExp; rw [if_neg hb])
    clear hb
    go_wp2_with fail
    go_ret3
    exact ⟨by rw [HE2.out]; rfl, _, rfl⟩
end Go.Proofs.Ytciakpfnmkoghaa
