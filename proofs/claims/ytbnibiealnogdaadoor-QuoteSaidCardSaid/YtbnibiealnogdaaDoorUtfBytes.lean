/- The contract of the iterator that utf's bytes hands back: a code point's bytes, in order (written by gen_bytes.py). -/
import Derived.Test.YtbnibiealnogdaaDoorUtfNext
import Derived.RangeFuncNested
import Derived.RangeFuncBound
import Derived.RangeFuncCalls
import Derived.RangeFuncLeaves
import Derived.RangeFuncBox
import Derived.Shelf.Abstract
import Derived.Shelf.RegionOpen
import Derived.OwnWalkIn
import Derived.TacticsInMore
import Derived.LoopNIn
import Derived.LoopIn
import Derived.Lib.QuietBelowIn
namespace Go.Proofs.YtbnibiealnogdaaDoor
open Go.RowKit Go.Shelf Go.Sort
attribute [local go_sem] Oper.semAt_some

theorem or_add {x y : Int} (k : Nat) (hx : 0 ≤ x) (hxk : x < 2 ^ k) (hy : 0 ≤ y) (hyk : y % 2 ^ k = 0) (hx62 : x < 2 ^ 62) (hy62 : y < 2 ^ 62) : Go.bits .or .i64 x y = x + y := by
  obtain ⟨a, rfl⟩ := Int.eq_ofNat_of_zero_le hx
  obtain ⟨b, rfl⟩ := Int.eq_ofNat_of_zero_le hy
  have ha : a < 2 ^ 62 := by exact_mod_cast hx62
  have hb : b < 2 ^ 62 := by exact_mod_cast hy62
  have h1 := bits_join .i64 62 (by decide) wraps_i64' k (b : Int) (a : Int) hy hyk hy62 hx hxk hx62
  rw [(bits_nat .i64 62 (by decide) wraps_i64' b a hb ha).2] at h1
  rw [(bits_nat .i64 62 (by decide) wraps_i64' a b ha hb).2, Nat.or_comm, h1]
  omega
theorem or128 {x : Int} (hx : 0 ≤ x) (h : x < 64) : Go.bits .or .i64 x 128 = x + 128 := or_add 7 hx (by omega) (by omega) (by decide) (by omega) (by omega)
theorem u8_wrap {n : Nat} {x : UInt8} (h : x.toNat = n) : (n : Int) % 256 = (x.toNat : Int) := by
  have := x.toNat_lt
  omega
/-- what a round keeps for the iterator: its two boxes -/
def K2 (Bn Bp : Nat) (W W' : World) : Prop := (∀ v, W.cell? ⟨Bn, 0, none⟩ = some v → W'.cell? ⟨Bn, 0, none⟩ = some v) ∧ (∀ v, W.cell? ⟨Bp, 0, none⟩ = some v → W'.cell? ⟨Bp, 0, none⟩ = some v)
theorem K2.refl (Bn Bp : Nat) (W : World) : K2 Bn Bp W W := ⟨fun _ h => h, fun _ h => h⟩
theorem K2.trans {Bn Bp : Nat} {A B C : World} (h : K2 Bn Bp A B) (k : K2 Bn Bp B C) : K2 Bn Bp A C := ⟨fun v hv => k.1 v (h.1 v hv), fun v hv => k.2 v (h.2 v hv)⟩
theorem K2.of {Bn Bp : Nat} {W W' : World} (h : Below W.heap.size W W') : K2 Bn Bp W W' := ⟨fun _ hv => keep_cell h hv, fun _ hv => keep_cell h hv⟩
theorem sz_range {p : Nat} {k : Nat} (h : Utf.sz p = k) (hk : k ≠ 0) : p ≤ 1114111 ∧ ((k = 1 ∧ p < 128) ∨ (k = 2 ∧ 128 ≤ p ∧ p < 2048) ∨ (k = 3 ∧ 2048 ≤ p ∧ p < 65536) ∨ (k = 4 ∧ 65536 ≤ p)) := by
  obtain ⟨h1, h2⟩ := Utf.sz_cases h hk
  have := Utf.isCp_iff.1 h1
  omega
theorem field_at1 (W : World) : (Instr.field 104 (.agg #[.int .i64 7, .int .i64 0]) 1).run Tryd.prog W = .ok (.int .i64 0) W := by kernel_rfl
set_option maxHeartbeats 4000000 in
theorem bytes_of1 (m : Nat) (hm : 1 ≤ m) (l Bn Bp p : Nat) (hsz : Utf.sz p = 1) (J Jx : List UInt8 → World → Prop)
    (hJ : ∀ s W1 W2, J s W1 → Below W1.heap.size W1 W2 → J s W2)
    (hY : ∀ pre (x : UInt8) W, J pre W → pre.length < 1 → YieldAt Fence.wide (m - 1) Tryd.prog l #[.int .u8 (x.toNat : Int)] W fun e W' =>
      (e = .returned (.bool true) ∧ J (pre ++ [x]) W' ∧ K2 Bn Bp W W') ∨ (e = .returned (.bool false) ∧ Jx (pre ++ [x]) W'))
    (W : World) (hBn : W.cell? ⟨Bn, 0, none⟩ = some (.int .i64 1)) (hBp : W.cell? ⟨Bp, 0, none⟩ = some (.int .i64 (p : Int))) (h0 : J [] W) :
    CallsIn Fence.wide m Tryd.prog 63 #[.func (.yield l) #[] #[], .pointer (some ⟨Bn, 0, none⟩), .pointer (some ⟨Bp, 0, none⟩)] W fun e W' => (∃ v, e = .returned v) ∧
      ((∃ ys, ys = Utf.enc p ∧ J ys W') ∨ (∃ pre, pre <+: Utf.enc p ∧ Jx pre W')) := by
  have hr := sz_range hsz (by omega)
  have hE : Utf.enc p = [Utf.u8 (p)] := by
    unfold Utf.enc
    rw [if_pos (by omega)]
  obtain ⟨x0, hx0⟩ : ∃ x, x = Utf.u8 (p) := ⟨_, rfl⟩
  have v0 : x0.toNat = p := by rw [hx0]; exact Utf.u8_toNat (by omega)
  rw [← hx0] at hE
  have HE := hide hE
  have HP := hide hr
  have V0 := hide v0
  clear hE hr hx0 v0
  have fi1 := forms_at1
  have ff1 := field_at1
  refine callsIn_of_wp Tryd.func63 rfl trivial ?_ rfl
  simp only [Tryd.ntmps63, List.size_toArray, List.length_cons, List.length_nil, Nat.reduceAdd, Nat.reduceSub, Array.replicate_succ, Array.replicate_zero, List.push_toArray, List.append_toArray, List.nil_append, List.cons_append]
  gi_wp2
  gi_loopw [4] (fun k wr => ((k = .int .i64 (0) ∧ Hid (J [] wr)) ∨ (k = .int .i64 (-1) ∧ Hid (J [x0] wr))) ∧ Hid (K2 Bn Bp W wr)) (fun k _ => (intOf k + 1).toNat)
  case atStart => exact ⟨Or.inl ⟨rfl, hide h0⟩, hide (K2.refl _ _ _)⟩
  case round =>
    obtain ⟨hst, hb⟩ := hrel
    have c1 := hb.out.1 _ hBn
    have c2 := hb.out.2 _ hBp
    rcases hst with ⟨rfl, hj⟩ | ⟨rfl, hj⟩
    · obtain ⟨z, hz⟩ : ∃ z, z = p % 64 := ⟨_, rfl⟩
      obtain ⟨b1, hb1⟩ : ∃ b1, b1 = 128 + p % 64 := ⟨_, rfl⟩
      have hq : Go.bits .and .i64 ((p : Int)) 63 = (z : Int) := by rw [i64_and63 (by have := HP.out; omega) (by have := HP.out; omega)]; omega
      have hq2 : Go.bits .or .i64 (z : Int) 128 = (b1 : Int) := by rw [or128 (by omega) (by omega)]; omega
      have hq3 : Go.bits .or .i64 ((p : Int)) 0 = ((p : Nat) : Int) := (by rw [or_add 8 (by omega) (by have := HP.out; omega) (by omega) (by decide) (by have := HP.out; omega) (by omega)]; omega)
      have hwr := u8_wrap V0.out
      have w6 : IntKind.i64.wrap 0 = 0 := by decide
      have kn : ∀ d os, (grow (Go.redrawn wr d) os).cell? ⟨Bn, 0, none⟩ = some (.int .i64 1) := cell_regrown c1
      have kp : ∀ d os, (grow (Go.redrawn wr d) os).cell? ⟨Bp, 0, none⟩ = some (.int .i64 (p : Int)) := cell_regrown c2
      have cF : ∀ d os, CallsIn Fence.wide (m - 1) Tryd.prog 64 #[] (grow (Go.redrawn wr d) os) fun e w'' => e = .returned formsV ∧ ∃ p : Regrown, w'' = grow (Go.redrawn wr p.d) p.os := fun d os => CallsIn.regrown_of (callsIn_wide.2 (forms_any _))
      skip
      clear hz hb1
      gi_wp2
      refine wpIn_region_quiet_below rfl (by kernel_rfl) (by kernel_rfl) ?_
      repeat (refine wpQuietIn_step (by first | exact fun _ _ _ => trivial | exact fun _ _ _ _ => trivial | quiet_asked_in | (intros; trivial)) (fun K hK => ?_); go_simp; first | (refine hK _ ?_; clear hK K) | (apply Exists.intro; refine ⟨fun _ => ?_, hK _ ?_⟩; (first | exact ⟨trivial, cF _ _⟩ | exact cF _ _); clear hK K))
      refine wpQuietIn_nil ?_
      intro _ hw'
      obtain ⟨⟨dq, osq⟩, hw''⟩ := hw'
      subst hw''
      have hbq := below_regrown wr dq osq
      have HJ2 := hide (hJ _ _ _ hj.out hbq)
      have HB2 := hide (hb.out.trans (K2.of hbq))
      generalize grow (Go.redrawn wr dq) osq = V at *
      obtain ⟨fn, tmps, assign, body, hy, hR⟩ := hY [] x0 V HJ2.out (by simp)
      gi_wp2
      refine hR.mono ?_
      rintro e W3 (⟨rfl, hJ3, hk3⟩ | ⟨rfl, hJx3⟩)
      · gi_wp2
        go_roundw
        case rel => exact ⟨Or.inr (⟨rfl, hide hJ3⟩), hide (HB2.out.trans hk3)⟩
        case measure => decide
      · gi_wp2
        refine bodyPost_ret (results_none rfl _ _ _) rfl ?_
        exact ⟨⟨_, rfl⟩, .inr ⟨[] ++ [x0], by rw [HE.out]; exact ⟨[], rfl⟩, hJx3⟩⟩
    · gi_wp2
      go_end0
      exact ⟨⟨_, rfl⟩, .inl ⟨_, HE.out.symm, hj.out⟩⟩
theorem field_at2 (W : World) : (Instr.field 104 (.agg #[.int .i64 5, .int .i64 192]) 1).run Tryd.prog W = .ok (.int .i64 192) W := by kernel_rfl
set_option maxHeartbeats 4000000 in
theorem bytes_of2 (m : Nat) (hm : 1 ≤ m) (l Bn Bp p : Nat) (hsz : Utf.sz p = 2) (J Jx : List UInt8 → World → Prop)
    (hJ : ∀ s W1 W2, J s W1 → Below W1.heap.size W1 W2 → J s W2)
    (hY : ∀ pre (x : UInt8) W, J pre W → pre.length < 2 → YieldAt Fence.wide (m - 1) Tryd.prog l #[.int .u8 (x.toNat : Int)] W fun e W' =>
      (e = .returned (.bool true) ∧ J (pre ++ [x]) W' ∧ K2 Bn Bp W W') ∨ (e = .returned (.bool false) ∧ Jx (pre ++ [x]) W'))
    (W : World) (hBn : W.cell? ⟨Bn, 0, none⟩ = some (.int .i64 2)) (hBp : W.cell? ⟨Bp, 0, none⟩ = some (.int .i64 (p : Int))) (h0 : J [] W) :
    CallsIn Fence.wide m Tryd.prog 63 #[.func (.yield l) #[] #[], .pointer (some ⟨Bn, 0, none⟩), .pointer (some ⟨Bp, 0, none⟩)] W fun e W' => (∃ v, e = .returned v) ∧
      ((∃ ys, ys = Utf.enc p ∧ J ys W') ∨ (∃ pre, pre <+: Utf.enc p ∧ Jx pre W')) := by
  have hr := sz_range hsz (by omega)
  have hE : Utf.enc p = [Utf.u8 (192 + p / 64), Utf.u8 (128 + p % 64)] := by
    unfold Utf.enc
    rw [if_neg (by omega), if_pos (by omega)]
  obtain ⟨x0, hx0⟩ : ∃ x, x = Utf.u8 (192 + p / 64) := ⟨_, rfl⟩
  have v0 : x0.toNat = 192 + p / 64 := by rw [hx0]; exact Utf.u8_toNat (by omega)
  obtain ⟨x1, hx1⟩ : ∃ x, x = Utf.u8 (128 + p % 64) := ⟨_, rfl⟩
  have v1 : x1.toNat = 128 + p % 64 := by rw [hx1]; exact Utf.u8_toNat (by omega)
  rw [← hx0, ← hx1] at hE
  have HE := hide hE
  have HP := hide hr
  have V0 := hide v0
  have V1 := hide v1
  clear hE hr hx0 v0 hx1 v1
  have fi2 := forms_at2
  have ff2 := field_at2
  refine callsIn_of_wp Tryd.func63 rfl trivial ?_ rfl
  simp only [Tryd.ntmps63, List.size_toArray, List.length_cons, List.length_nil, Nat.reduceAdd, Nat.reduceSub, Array.replicate_succ, Array.replicate_zero, List.push_toArray, List.append_toArray, List.nil_append, List.cons_append]
  gi_wp2
  gi_loopw [4] (fun k wr => ((k = .int .i64 (1) ∧ Hid (J [] wr)) ∨ (k = .int .i64 (0) ∧ Hid (J [x0] wr)) ∨ (k = .int .i64 (-1) ∧ Hid (J [x0, x1] wr))) ∧ Hid (K2 Bn Bp W wr)) (fun k _ => (intOf k + 1).toNat)
  case atStart => exact ⟨Or.inl ⟨rfl, hide h0⟩, hide (K2.refl _ _ _)⟩
  case round =>
    obtain ⟨hst, hb⟩ := hrel
    have c1 := hb.out.1 _ hBn
    have c2 := hb.out.2 _ hBp
    rcases hst with ⟨rfl, hj⟩ | ⟨rfl, hj⟩ | ⟨rfl, hj⟩
    · obtain ⟨z, hz⟩ : ∃ z, z = p / 64 % 64 := ⟨_, rfl⟩
      obtain ⟨b1, hb1⟩ : ∃ b1, b1 = 128 + p / 64 % 64 := ⟨_, rfl⟩
      have hq : Go.bits .and .i64 ((p : Int) / 64) 63 = (z : Int) := by rw [i64_and63 (by have := HP.out; omega) (by have := HP.out; omega)]; omega
      have hq2 : Go.bits .or .i64 (z : Int) 128 = (b1 : Int) := by rw [or128 (by omega) (by omega)]; omega
      have hq3 : Go.bits .or .i64 ((p : Int) / 64) 192 = ((192 + p / 64 : Nat) : Int) := (by rw [or_add 5 (by omega) (by have := HP.out; omega) (by omega) (by decide) (by have := HP.out; omega) (by omega)]; omega)
      have hwr := u8_wrap V0.out
      have w6 : IntKind.i64.wrap 6 = 6 := by decide
      have kn : ∀ d os, (grow (Go.redrawn wr d) os).cell? ⟨Bn, 0, none⟩ = some (.int .i64 2) := cell_regrown c1
      have kp : ∀ d os, (grow (Go.redrawn wr d) os).cell? ⟨Bp, 0, none⟩ = some (.int .i64 (p : Int)) := cell_regrown c2
      have cF : ∀ d os, CallsIn Fence.wide (m - 1) Tryd.prog 64 #[] (grow (Go.redrawn wr d) os) fun e w'' => e = .returned formsV ∧ ∃ p : Regrown, w'' = grow (Go.redrawn wr p.d) p.os := fun d os => CallsIn.regrown_of (callsIn_wide.2 (forms_any _))
      generalize 192 + p / 64 = b0 at *
      clear hz hb1
      gi_wp2
      refine wpIn_region_quiet_below rfl (by kernel_rfl) (by kernel_rfl) ?_
      repeat (refine wpQuietIn_step (by first | exact fun _ _ _ => trivial | exact fun _ _ _ _ => trivial | quiet_asked_in | (intros; trivial)) (fun K hK => ?_); go_simp; first | (refine hK _ ?_; clear hK K) | (apply Exists.intro; refine ⟨fun _ => ?_, hK _ ?_⟩; (first | exact ⟨trivial, cF _ _⟩ | exact cF _ _); clear hK K))
      refine wpQuietIn_nil ?_
      intro _ hw'
      obtain ⟨⟨dq, osq⟩, hw''⟩ := hw'
      subst hw''
      have hbq := below_regrown wr dq osq
      have HJ2 := hide (hJ _ _ _ hj.out hbq)
      have HB2 := hide (hb.out.trans (K2.of hbq))
      generalize grow (Go.redrawn wr dq) osq = V at *
      obtain ⟨fn, tmps, assign, body, hy, hR⟩ := hY [] x0 V HJ2.out (by simp)
      gi_wp2
      refine hR.mono ?_
      rintro e W3 (⟨rfl, hJ3, hk3⟩ | ⟨rfl, hJx3⟩)
      · gi_wp2
        go_roundw
        case rel => exact ⟨Or.inr (Or.inl ⟨rfl, hide hJ3⟩), hide (HB2.out.trans hk3)⟩
        case measure => decide
      · gi_wp2
        refine bodyPost_ret (results_none rfl _ _ _) rfl ?_
        exact ⟨⟨_, rfl⟩, .inr ⟨[] ++ [x0], by rw [HE.out]; exact ⟨[x1], rfl⟩, hJx3⟩⟩
    · obtain ⟨z, hz⟩ : ∃ z, z = p % 64 := ⟨_, rfl⟩
      obtain ⟨b1, hb1⟩ : ∃ b1, b1 = 128 + p % 64 := ⟨_, rfl⟩
      have hq : Go.bits .and .i64 ((p : Int)) 63 = (z : Int) := by rw [i64_and63 (by have := HP.out; omega) (by have := HP.out; omega)]; omega
      have hq2 : Go.bits .or .i64 (z : Int) 128 = (b1 : Int) := by rw [or128 (by omega) (by omega)]; omega
      have hwr := u8_wrap (V1.out.trans hb1.symm)
      clear hz hb1
      have HJ2 := hide hj.out
      have HB2 := hide hb.out
      obtain ⟨fn, tmps, assign, body, hy, hR⟩ := hY [x0] x1 wr HJ2.out (by simp)
      gi_wp2
      refine hR.mono ?_
      rintro e W3 (⟨rfl, hJ3, hk3⟩ | ⟨rfl, hJx3⟩)
      · gi_wp2
        go_roundw
        case rel => exact ⟨Or.inr (Or.inr (⟨rfl, hide hJ3⟩)), hide (HB2.out.trans hk3)⟩
        case measure => decide
      · gi_wp2
        refine bodyPost_ret (results_none rfl _ _ _) rfl ?_
        exact ⟨⟨_, rfl⟩, .inr ⟨[x0] ++ [x1], by rw [HE.out]; exact ⟨[], rfl⟩, hJx3⟩⟩
    · gi_wp2
      go_end0
      exact ⟨⟨_, rfl⟩, .inl ⟨_, HE.out.symm, hj.out⟩⟩
theorem field_at3 (W : World) : (Instr.field 104 (.agg #[.int .i64 4, .int .i64 224]) 1).run Tryd.prog W = .ok (.int .i64 224) W := by kernel_rfl
set_option maxHeartbeats 4000000 in
theorem bytes_of3 (m : Nat) (hm : 1 ≤ m) (l Bn Bp p : Nat) (hsz : Utf.sz p = 3) (J Jx : List UInt8 → World → Prop)
    (hJ : ∀ s W1 W2, J s W1 → Below W1.heap.size W1 W2 → J s W2)
    (hY : ∀ pre (x : UInt8) W, J pre W → pre.length < 3 → YieldAt Fence.wide (m - 1) Tryd.prog l #[.int .u8 (x.toNat : Int)] W fun e W' =>
      (e = .returned (.bool true) ∧ J (pre ++ [x]) W' ∧ K2 Bn Bp W W') ∨ (e = .returned (.bool false) ∧ Jx (pre ++ [x]) W'))
    (W : World) (hBn : W.cell? ⟨Bn, 0, none⟩ = some (.int .i64 3)) (hBp : W.cell? ⟨Bp, 0, none⟩ = some (.int .i64 (p : Int))) (h0 : J [] W) :
    CallsIn Fence.wide m Tryd.prog 63 #[.func (.yield l) #[] #[], .pointer (some ⟨Bn, 0, none⟩), .pointer (some ⟨Bp, 0, none⟩)] W fun e W' => (∃ v, e = .returned v) ∧
      ((∃ ys, ys = Utf.enc p ∧ J ys W') ∨ (∃ pre, pre <+: Utf.enc p ∧ Jx pre W')) := by
  have hr := sz_range hsz (by omega)
  have hE : Utf.enc p = [Utf.u8 (224 + p / 4096), Utf.u8 (128 + p / 64 % 64), Utf.u8 (128 + p % 64)] := by
    unfold Utf.enc
    rw [if_neg (by omega), if_neg (by omega), if_pos (by omega)]
  obtain ⟨x0, hx0⟩ : ∃ x, x = Utf.u8 (224 + p / 4096) := ⟨_, rfl⟩
  have v0 : x0.toNat = 224 + p / 4096 := by rw [hx0]; exact Utf.u8_toNat (by omega)
  obtain ⟨x1, hx1⟩ : ∃ x, x = Utf.u8 (128 + p / 64 % 64) := ⟨_, rfl⟩
  have v1 : x1.toNat = 128 + p / 64 % 64 := by rw [hx1]; exact Utf.u8_toNat (by omega)
  obtain ⟨x2, hx2⟩ : ∃ x, x = Utf.u8 (128 + p % 64) := ⟨_, rfl⟩
  have v2 : x2.toNat = 128 + p % 64 := by rw [hx2]; exact Utf.u8_toNat (by omega)
  rw [← hx0, ← hx1, ← hx2] at hE
  have HE := hide hE
  have HP := hide hr
  have V0 := hide v0
  have V1 := hide v1
  have V2 := hide v2
  clear hE hr hx0 v0 hx1 v1 hx2 v2
  have fi3 := forms_at3
  have ff3 := field_at3
  refine callsIn_of_wp Tryd.func63 rfl trivial ?_ rfl
  simp only [Tryd.ntmps63, List.size_toArray, List.length_cons, List.length_nil, Nat.reduceAdd, Nat.reduceSub, Array.replicate_succ, Array.replicate_zero, List.push_toArray, List.append_toArray, List.nil_append, List.cons_append]
  gi_wp2
  gi_loopw [4] (fun k wr => ((k = .int .i64 (2) ∧ Hid (J [] wr)) ∨ (k = .int .i64 (1) ∧ Hid (J [x0] wr)) ∨ (k = .int .i64 (0) ∧ Hid (J [x0, x1] wr)) ∨ (k = .int .i64 (-1) ∧ Hid (J [x0, x1, x2] wr))) ∧ Hid (K2 Bn Bp W wr)) (fun k _ => (intOf k + 1).toNat)
  case atStart => exact ⟨Or.inl ⟨rfl, hide h0⟩, hide (K2.refl _ _ _)⟩
  case round =>
    obtain ⟨hst, hb⟩ := hrel
    have c1 := hb.out.1 _ hBn
    have c2 := hb.out.2 _ hBp
    rcases hst with ⟨rfl, hj⟩ | ⟨rfl, hj⟩ | ⟨rfl, hj⟩ | ⟨rfl, hj⟩
    · obtain ⟨z, hz⟩ : ∃ z, z = p / 4096 % 64 := ⟨_, rfl⟩
      obtain ⟨b1, hb1⟩ : ∃ b1, b1 = 128 + p / 4096 % 64 := ⟨_, rfl⟩
      have hq : Go.bits .and .i64 ((p : Int) / 4096) 63 = (z : Int) := by rw [i64_and63 (by have := HP.out; omega) (by have := HP.out; omega)]; omega
      have hq2 : Go.bits .or .i64 (z : Int) 128 = (b1 : Int) := by rw [or128 (by omega) (by omega)]; omega
      have hq3 : Go.bits .or .i64 ((p : Int) / 4096) 224 = ((224 + p / 4096 : Nat) : Int) := (by rw [or_add 4 (by omega) (by have := HP.out; omega) (by omega) (by decide) (by have := HP.out; omega) (by omega)]; omega)
      have hwr := u8_wrap V0.out
      have w6 : IntKind.i64.wrap 12 = 12 := by decide
      have kn : ∀ d os, (grow (Go.redrawn wr d) os).cell? ⟨Bn, 0, none⟩ = some (.int .i64 3) := cell_regrown c1
      have kp : ∀ d os, (grow (Go.redrawn wr d) os).cell? ⟨Bp, 0, none⟩ = some (.int .i64 (p : Int)) := cell_regrown c2
      have cF : ∀ d os, CallsIn Fence.wide (m - 1) Tryd.prog 64 #[] (grow (Go.redrawn wr d) os) fun e w'' => e = .returned formsV ∧ ∃ p : Regrown, w'' = grow (Go.redrawn wr p.d) p.os := fun d os => CallsIn.regrown_of (callsIn_wide.2 (forms_any _))
      generalize 224 + p / 4096 = b0 at *
      clear hz hb1
      gi_wp2
      refine wpIn_region_quiet_below rfl (by kernel_rfl) (by kernel_rfl) ?_
      repeat (refine wpQuietIn_step (by first | exact fun _ _ _ => trivial | exact fun _ _ _ _ => trivial | quiet_asked_in | (intros; trivial)) (fun K hK => ?_); go_simp; first | (refine hK _ ?_; clear hK K) | (apply Exists.intro; refine ⟨fun _ => ?_, hK _ ?_⟩; (first | exact ⟨trivial, cF _ _⟩ | exact cF _ _); clear hK K))
      refine wpQuietIn_nil ?_
      intro _ hw'
      obtain ⟨⟨dq, osq⟩, hw''⟩ := hw'
      subst hw''
      have hbq := below_regrown wr dq osq
      have HJ2 := hide (hJ _ _ _ hj.out hbq)
      have HB2 := hide (hb.out.trans (K2.of hbq))
      generalize grow (Go.redrawn wr dq) osq = V at *
      obtain ⟨fn, tmps, assign, body, hy, hR⟩ := hY [] x0 V HJ2.out (by simp)
      gi_wp2
      refine hR.mono ?_
      rintro e W3 (⟨rfl, hJ3, hk3⟩ | ⟨rfl, hJx3⟩)
      · gi_wp2
        go_roundw
        case rel => exact ⟨Or.inr (Or.inl ⟨rfl, hide hJ3⟩), hide (HB2.out.trans hk3)⟩
        case measure => decide
      · gi_wp2
        refine bodyPost_ret (results_none rfl _ _ _) rfl ?_
        exact ⟨⟨_, rfl⟩, .inr ⟨[] ++ [x0], by rw [HE.out]; exact ⟨[x1, x2], rfl⟩, hJx3⟩⟩
    · obtain ⟨z, hz⟩ : ∃ z, z = p / 64 % 64 := ⟨_, rfl⟩
      obtain ⟨b1, hb1⟩ : ∃ b1, b1 = 128 + p / 64 % 64 := ⟨_, rfl⟩
      have hq : Go.bits .and .i64 ((p : Int) / 64) 63 = (z : Int) := by rw [i64_and63 (by have := HP.out; omega) (by have := HP.out; omega)]; omega
      have hq2 : Go.bits .or .i64 (z : Int) 128 = (b1 : Int) := by rw [or128 (by omega) (by omega)]; omega
      have hwr := u8_wrap (V1.out.trans hb1.symm)
      clear hz hb1
      have HJ2 := hide hj.out
      have HB2 := hide hb.out
      obtain ⟨fn, tmps, assign, body, hy, hR⟩ := hY [x0] x1 wr HJ2.out (by simp)
      gi_wp2
      refine hR.mono ?_
      rintro e W3 (⟨rfl, hJ3, hk3⟩ | ⟨rfl, hJx3⟩)
      · gi_wp2
        go_roundw
        case rel => exact ⟨Or.inr (Or.inr (Or.inl ⟨rfl, hide hJ3⟩)), hide (HB2.out.trans hk3)⟩
        case measure => decide
      · gi_wp2
        refine bodyPost_ret (results_none rfl _ _ _) rfl ?_
        exact ⟨⟨_, rfl⟩, .inr ⟨[x0] ++ [x1], by rw [HE.out]; exact ⟨[x2], rfl⟩, hJx3⟩⟩
    · obtain ⟨z, hz⟩ : ∃ z, z = p % 64 := ⟨_, rfl⟩
      obtain ⟨b1, hb1⟩ : ∃ b1, b1 = 128 + p % 64 := ⟨_, rfl⟩
      have hq : Go.bits .and .i64 ((p : Int)) 63 = (z : Int) := by rw [i64_and63 (by have := HP.out; omega) (by have := HP.out; omega)]; omega
      have hq2 : Go.bits .or .i64 (z : Int) 128 = (b1 : Int) := by rw [or128 (by omega) (by omega)]; omega
      have hwr := u8_wrap (V2.out.trans hb1.symm)
      clear hz hb1
      have HJ2 := hide hj.out
      have HB2 := hide hb.out
      obtain ⟨fn, tmps, assign, body, hy, hR⟩ := hY [x0, x1] x2 wr HJ2.out (by simp)
      gi_wp2
      refine hR.mono ?_
      rintro e W3 (⟨rfl, hJ3, hk3⟩ | ⟨rfl, hJx3⟩)
      · gi_wp2
        go_roundw
        case rel => exact ⟨Or.inr (Or.inr (Or.inr (⟨rfl, hide hJ3⟩))), hide (HB2.out.trans hk3)⟩
        case measure => decide
      · gi_wp2
        refine bodyPost_ret (results_none rfl _ _ _) rfl ?_
        exact ⟨⟨_, rfl⟩, .inr ⟨[x0, x1] ++ [x2], by rw [HE.out]; exact ⟨[], rfl⟩, hJx3⟩⟩
    · gi_wp2
      go_end0
      exact ⟨⟨_, rfl⟩, .inl ⟨_, HE.out.symm, hj.out⟩⟩
theorem field_at4 (W : World) : (Instr.field 104 (.agg #[.int .i64 3, .int .i64 240]) 1).run Tryd.prog W = .ok (.int .i64 240) W := by kernel_rfl
set_option maxHeartbeats 4000000 in
theorem bytes_of4 (m : Nat) (hm : 1 ≤ m) (l Bn Bp p : Nat) (hsz : Utf.sz p = 4) (J Jx : List UInt8 → World → Prop)
    (hJ : ∀ s W1 W2, J s W1 → Below W1.heap.size W1 W2 → J s W2)
    (hY : ∀ pre (x : UInt8) W, J pre W → pre.length < 4 → YieldAt Fence.wide (m - 1) Tryd.prog l #[.int .u8 (x.toNat : Int)] W fun e W' =>
      (e = .returned (.bool true) ∧ J (pre ++ [x]) W' ∧ K2 Bn Bp W W') ∨ (e = .returned (.bool false) ∧ Jx (pre ++ [x]) W'))
    (W : World) (hBn : W.cell? ⟨Bn, 0, none⟩ = some (.int .i64 4)) (hBp : W.cell? ⟨Bp, 0, none⟩ = some (.int .i64 (p : Int))) (h0 : J [] W) :
    CallsIn Fence.wide m Tryd.prog 63 #[.func (.yield l) #[] #[], .pointer (some ⟨Bn, 0, none⟩), .pointer (some ⟨Bp, 0, none⟩)] W fun e W' => (∃ v, e = .returned v) ∧
      ((∃ ys, ys = Utf.enc p ∧ J ys W') ∨ (∃ pre, pre <+: Utf.enc p ∧ Jx pre W')) := by
  have hr := sz_range hsz (by omega)
  have hE : Utf.enc p = [Utf.u8 (240 + p / 262144), Utf.u8 (128 + p / 4096 % 64), Utf.u8 (128 + p / 64 % 64), Utf.u8 (128 + p % 64)] := by
    unfold Utf.enc
    rw [if_neg (by omega), if_neg (by omega), if_neg (by omega)]
  obtain ⟨x0, hx0⟩ : ∃ x, x = Utf.u8 (240 + p / 262144) := ⟨_, rfl⟩
  have v0 : x0.toNat = 240 + p / 262144 := by rw [hx0]; exact Utf.u8_toNat (by omega)
  obtain ⟨x1, hx1⟩ : ∃ x, x = Utf.u8 (128 + p / 4096 % 64) := ⟨_, rfl⟩
  have v1 : x1.toNat = 128 + p / 4096 % 64 := by rw [hx1]; exact Utf.u8_toNat (by omega)
  obtain ⟨x2, hx2⟩ : ∃ x, x = Utf.u8 (128 + p / 64 % 64) := ⟨_, rfl⟩
  have v2 : x2.toNat = 128 + p / 64 % 64 := by rw [hx2]; exact Utf.u8_toNat (by omega)
  obtain ⟨x3, hx3⟩ : ∃ x, x = Utf.u8 (128 + p % 64) := ⟨_, rfl⟩
  have v3 : x3.toNat = 128 + p % 64 := by rw [hx3]; exact Utf.u8_toNat (by omega)
  rw [← hx0, ← hx1, ← hx2, ← hx3] at hE
  have HE := hide hE
  have HP := hide hr
  have V0 := hide v0
  have V1 := hide v1
  have V2 := hide v2
  have V3 := hide v3
  clear hE hr hx0 v0 hx1 v1 hx2 v2 hx3 v3
  have fi4 := forms_at4
  have ff4 := field_at4
  refine callsIn_of_wp Tryd.func63 rfl trivial ?_ rfl
  simp only [Tryd.ntmps63, List.size_toArray, List.length_cons, List.length_nil, Nat.reduceAdd, Nat.reduceSub, Array.replicate_succ, Array.replicate_zero, List.push_toArray, List.append_toArray, List.nil_append, List.cons_append]
  gi_wp2
  gi_loopw [4] (fun k wr => ((k = .int .i64 (3) ∧ Hid (J [] wr)) ∨ (k = .int .i64 (2) ∧ Hid (J [x0] wr)) ∨ (k = .int .i64 (1) ∧ Hid (J [x0, x1] wr)) ∨ (k = .int .i64 (0) ∧ Hid (J [x0, x1, x2] wr)) ∨ (k = .int .i64 (-1) ∧ Hid (J [x0, x1, x2, x3] wr))) ∧ Hid (K2 Bn Bp W wr)) (fun k _ => (intOf k + 1).toNat)
  case atStart => exact ⟨Or.inl ⟨rfl, hide h0⟩, hide (K2.refl _ _ _)⟩
  case round =>
    obtain ⟨hst, hb⟩ := hrel
    have c1 := hb.out.1 _ hBn
    have c2 := hb.out.2 _ hBp
    rcases hst with ⟨rfl, hj⟩ | ⟨rfl, hj⟩ | ⟨rfl, hj⟩ | ⟨rfl, hj⟩ | ⟨rfl, hj⟩
    · obtain ⟨z, hz⟩ : ∃ z, z = p / 262144 % 64 := ⟨_, rfl⟩
      obtain ⟨b1, hb1⟩ : ∃ b1, b1 = 128 + p / 262144 % 64 := ⟨_, rfl⟩
      have hq : Go.bits .and .i64 ((p : Int) / 262144) 63 = (z : Int) := by rw [i64_and63 (by have := HP.out; omega) (by have := HP.out; omega)]; omega
      have hq2 : Go.bits .or .i64 (z : Int) 128 = (b1 : Int) := by rw [or128 (by omega) (by omega)]; omega
      have hq3 : Go.bits .or .i64 ((p : Int) / 262144) 240 = ((240 + p / 262144 : Nat) : Int) := (by rw [or_add 3 (by omega) (by have := HP.out; omega) (by omega) (by decide) (by have := HP.out; omega) (by omega)]; omega)
      have hwr := u8_wrap V0.out
      have w6 : IntKind.i64.wrap 18 = 18 := by decide
      have kn : ∀ d os, (grow (Go.redrawn wr d) os).cell? ⟨Bn, 0, none⟩ = some (.int .i64 4) := cell_regrown c1
      have kp : ∀ d os, (grow (Go.redrawn wr d) os).cell? ⟨Bp, 0, none⟩ = some (.int .i64 (p : Int)) := cell_regrown c2
      have cF : ∀ d os, CallsIn Fence.wide (m - 1) Tryd.prog 64 #[] (grow (Go.redrawn wr d) os) fun e w'' => e = .returned formsV ∧ ∃ p : Regrown, w'' = grow (Go.redrawn wr p.d) p.os := fun d os => CallsIn.regrown_of (callsIn_wide.2 (forms_any _))
      generalize 240 + p / 262144 = b0 at *
      clear hz hb1
      gi_wp2
      refine wpIn_region_quiet_below rfl (by kernel_rfl) (by kernel_rfl) ?_
      repeat (refine wpQuietIn_step (by first | exact fun _ _ _ => trivial | exact fun _ _ _ _ => trivial | quiet_asked_in | (intros; trivial)) (fun K hK => ?_); go_simp; first | (refine hK _ ?_; clear hK K) | (apply Exists.intro; refine ⟨fun _ => ?_, hK _ ?_⟩; (first | exact ⟨trivial, cF _ _⟩ | exact cF _ _); clear hK K))
      refine wpQuietIn_nil ?_
      intro _ hw'
      obtain ⟨⟨dq, osq⟩, hw''⟩ := hw'
      subst hw''
      have hbq := below_regrown wr dq osq
      have HJ2 := hide (hJ _ _ _ hj.out hbq)
      have HB2 := hide (hb.out.trans (K2.of hbq))
      generalize grow (Go.redrawn wr dq) osq = V at *
      obtain ⟨fn, tmps, assign, body, hy, hR⟩ := hY [] x0 V HJ2.out (by simp)
      gi_wp2
      refine hR.mono ?_
      rintro e W3 (⟨rfl, hJ3, hk3⟩ | ⟨rfl, hJx3⟩)
      · gi_wp2
        go_roundw
        case rel => exact ⟨Or.inr (Or.inl ⟨rfl, hide hJ3⟩), hide (HB2.out.trans hk3)⟩
        case measure => decide
      · gi_wp2
        refine bodyPost_ret (results_none rfl _ _ _) rfl ?_
        exact ⟨⟨_, rfl⟩, .inr ⟨[] ++ [x0], by rw [HE.out]; exact ⟨[x1, x2, x3], rfl⟩, hJx3⟩⟩
    · obtain ⟨z, hz⟩ : ∃ z, z = p / 4096 % 64 := ⟨_, rfl⟩
      obtain ⟨b1, hb1⟩ : ∃ b1, b1 = 128 + p / 4096 % 64 := ⟨_, rfl⟩
      have hq : Go.bits .and .i64 ((p : Int) / 4096) 63 = (z : Int) := by rw [i64_and63 (by have := HP.out; omega) (by have := HP.out; omega)]; omega
      have hq2 : Go.bits .or .i64 (z : Int) 128 = (b1 : Int) := by rw [or128 (by omega) (by omega)]; omega
      have hwr := u8_wrap (V1.out.trans hb1.symm)
      clear hz hb1
      have HJ2 := hide hj.out
      have HB2 := hide hb.out
      obtain ⟨fn, tmps, assign, body, hy, hR⟩ := hY [x0] x1 wr HJ2.out (by simp)
      gi_wp2
      refine hR.mono ?_
      rintro e W3 (⟨rfl, hJ3, hk3⟩ | ⟨rfl, hJx3⟩)
      · gi_wp2
        go_roundw
        case rel => exact ⟨Or.inr (Or.inr (Or.inl ⟨rfl, hide hJ3⟩)), hide (HB2.out.trans hk3)⟩
        case measure => decide
      · gi_wp2
        refine bodyPost_ret (results_none rfl _ _ _) rfl ?_
        exact ⟨⟨_, rfl⟩, .inr ⟨[x0] ++ [x1], by rw [HE.out]; exact ⟨[x2, x3], rfl⟩, hJx3⟩⟩
    · obtain ⟨z, hz⟩ : ∃ z, z = p / 64 % 64 := ⟨_, rfl⟩
      obtain ⟨b1, hb1⟩ : ∃ b1, b1 = 128 + p / 64 % 64 := ⟨_, rfl⟩
      have hq : Go.bits .and .i64 ((p : Int) / 64) 63 = (z : Int) := by rw [i64_and63 (by have := HP.out; omega) (by have := HP.out; omega)]; omega
      have hq2 : Go.bits .or .i64 (z : Int) 128 = (b1 : Int) := by rw [or128 (by omega) (by omega)]; omega
      have hwr := u8_wrap (V2.out.trans hb1.symm)
      clear hz hb1
      have HJ2 := hide hj.out
      have HB2 := hide hb.out
      obtain ⟨fn, tmps, assign, body, hy, hR⟩ := hY [x0, x1] x2 wr HJ2.out (by simp)
      gi_wp2
      refine hR.mono ?_
      rintro e W3 (⟨rfl, hJ3, hk3⟩ | ⟨rfl, hJx3⟩)
      · gi_wp2
        go_roundw
        case rel => exact ⟨Or.inr (Or.inr (Or.inr (Or.inl ⟨rfl, hide hJ3⟩))), hide (HB2.out.trans hk3)⟩
        case measure => decide
      · gi_wp2
        refine bodyPost_ret (results_none rfl _ _ _) rfl ?_
        exact ⟨⟨_, rfl⟩, .inr ⟨[x0, x1] ++ [x2], by rw [HE.out]; exact ⟨[x3], rfl⟩, hJx3⟩⟩
    · obtain ⟨z, hz⟩ : ∃ z, z = p % 64 := ⟨_, rfl⟩
      obtain ⟨b1, hb1⟩ : ∃ b1, b1 = 128 + p % 64 := ⟨_, rfl⟩
      have hq : Go.bits .and .i64 ((p : Int)) 63 = (z : Int) := by rw [i64_and63 (by have := HP.out; omega) (by have := HP.out; omega)]; omega
      have hq2 : Go.bits .or .i64 (z : Int) 128 = (b1 : Int) := by rw [or128 (by omega) (by omega)]; omega
      have hwr := u8_wrap (V3.out.trans hb1.symm)
      clear hz hb1
      have HJ2 := hide hj.out
      have HB2 := hide hb.out
      obtain ⟨fn, tmps, assign, body, hy, hR⟩ := hY [x0, x1, x2] x3 wr HJ2.out (by simp)
      gi_wp2
      refine hR.mono ?_
      rintro e W3 (⟨rfl, hJ3, hk3⟩ | ⟨rfl, hJx3⟩)
      · gi_wp2
        go_roundw
        case rel => exact ⟨Or.inr (Or.inr (Or.inr (Or.inr (⟨rfl, hide hJ3⟩)))), hide (HB2.out.trans hk3)⟩
        case measure => decide
      · gi_wp2
        refine bodyPost_ret (results_none rfl _ _ _) rfl ?_
        exact ⟨⟨_, rfl⟩, .inr ⟨[x0, x1, x2] ++ [x3], by rw [HE.out]; exact ⟨[], rfl⟩, hJx3⟩⟩
    · gi_wp2
      go_end0
      exact ⟨⟨_, rfl⟩, .inl ⟨_, HE.out.symm, hj.out⟩⟩
theorem bytes_stops (m : Nat) (hm : 1 ≤ m) (Bn Bp p : Nat) (hcp : Utf.isCp p = true) (w : World)
    (hc : w.cell? ⟨Bn, 0, none⟩ = some (.int .i64 (Utf.sz p : Nat))) (hc2 : w.cell? ⟨Bp, 0, none⟩ = some (.int .i64 (p : Int))) :
    SeqStopsK Fence.wide m Tryd.prog 63 #[.pointer (some ⟨Bn, 0, none⟩), .pointer (some ⟨Bp, 0, none⟩)] (fun x : UInt8 => #[Value.int .u8 (x.toNat : Int)]) (K2 Bn Bp) (fun ys => ys = Utf.enc p) (fun pre => pre <+: Utf.enc p) (Utf.sz p) w := by
  intro l J Jx W hW hJ0 _ hY h0
  have hJ : ∀ s W1 W2, J s W1 → Below W1.heap.size W1 W2 → J s W2 := fun s W1 W2 hj hb => hJ0 s W1 W2 none hj ⟨hb.os, hb.tape, hb.output, hb.size, fun k hk _ => hb.block k hk⟩ (fun r e => by cases e)
  have h1 := keep_cell hW hc
  have h2 := keep_cell hW hc2
  have hp := Utf.sz_pos.2 hcp
  have h4 := Utf.sz_le (p : Int)
  have hs : Utf.sz p = 1 ∨ Utf.sz p = 2 ∨ Utf.sz p = 3 ∨ Utf.sz p = 4 := by omega
  rcases hs with hs | hs | hs | hs
  · rw [hs] at h1 hY
    exact bytes_of1 m hm l Bn Bp p hs J Jx hJ hY W h1 h2 h0
  · rw [hs] at h1 hY
    exact bytes_of2 m hm l Bn Bp p hs J Jx hJ hY W h1 h2 h0
  · rw [hs] at h1 hY
    exact bytes_of3 m hm l Bn Bp p hs J Jx hJ hY W h1 h2 h0
  · rw [hs] at h1 hY
    exact bytes_of4 m hm l Bn Bp p hs J Jx hJ hY W h1 h2 h0
/-- what bytes hands back: the closure over two new boxes -/
theorem bytes_any (p : Nat) (w : World) : Calls Tryd.prog 54 #[.int .i64 (p : Int)] w fun e w' => e = .returned (.func (.func 63) #[] #[.pointer (some ⟨w.heap.size + 1, 0, none⟩), .pointer (some ⟨w.heap.size, 0, none⟩)]) ∧
    w' = (w.alloc (.cells #[.int .i64 (p : Int)] 75)).alloc (.cells #[.int .i64 (Utf.sz p : Nat)] 3) := by
  have hmf : ∀ (fn : Fn) (first cap : Array Value) (w : World), (Instr.makeFunc fn first cap).run Tryd.prog w = .ok (.func fn first cap) w := fun _ _ _ _ => rfl
  go_enter Tryd.func54, Tryd.ntmps54
  go_wp2_with fail
  refine Calls.mono (size_any (p : Int) _) ?_
  rintro e w1 ⟨rfl, rfl⟩
  go_wp2_with fail
  go_ret
  exact ⟨rfl, rfl⟩
end Go.Proofs.YtbnibiealnogdaaDoor
