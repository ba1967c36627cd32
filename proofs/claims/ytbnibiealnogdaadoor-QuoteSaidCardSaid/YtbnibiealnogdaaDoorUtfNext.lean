/- The walks of utf's next and Next (written by gen_next.py). -/
import Derived.Test.YtbnibiealnogdaaDoorUtfSized
namespace Go.Proofs.YtbnibiealnogdaaDoor
open Go.RowKit

theorem wraps_i64' (n : Int) (h₀ : 0 ≤ n) (h₁ : n < 2 ^ 62) : IntKind.i64.wrap n = n := by rw [IntKind.wrap_i64]; omega
theorem i64_and127' {x : Int} (h₀ : 0 ≤ x) (h₁ : x < 4611686018427387904) : Go.bits .and .i64 x 127 = x % 128 := bits_mask .i64 62 (by decide) wraps_i64' 7 (by decide) x h₀ h₁
theorem i64_and63 {x : Int} (h₀ : 0 ≤ x) (h₁ : x < 4611686018427387904) : Go.bits .and .i64 x 63 = x % 64 := bits_mask .i64 62 (by decide) wraps_i64' 6 (by decide) x h₀ h₁
theorem u8_and63' {x : Int} (h₀ : 0 ≤ x) (h₁ : x < 256) : Go.bits .and .u8 x 63 = x % 64 := bits_mask .u8 8 (by decide) wraps_u8 6 (by decide) x h₀ h₁
theorem i64_and31 {x : Int} (h₀ : 0 ≤ x) (h₁ : x < 4611686018427387904) : Go.bits .and .i64 x 31 = x % 32 := bits_mask .i64 62 (by decide) wraps_i64' 5 (by decide) x h₀ h₁
theorem i64_and15 {x : Int} (h₀ : 0 ≤ x) (h₁ : x < 4611686018427387904) : Go.bits .and .i64 x 15 = x % 16 := bits_mask .i64 62 (by decide) wraps_i64' 4 (by decide) x h₀ h₁
theorem i64_and7 {x : Int} (h₀ : 0 ≤ x) (h₁ : x < 4611686018427387904) : Go.bits .and .i64 x 7 = x % 8 := bits_mask .i64 62 (by decide) wraps_i64' 3 (by decide) x h₀ h₁
theorem i64_or6 {x y : Int} (hx₀ : 0 ≤ x) (hx : x % 64 = 0) (hx₁ : x < 4611686018427387904) (h₀ : 0 ≤ y) (h₁ : y < 64) : Go.bits .or .i64 x y = x + y :=
  bits_join .i64 62 (by decide) wraps_i64' 6 x y hx₀ hx hx₁ h₀ h₁ (by omega)
/-- the decoding, the first byte told apart -/
theorem dec_cons (c : UInt8) (r : List UInt8) : Utf.dec (c :: r) = if Utf.sizeOf c.toNat = 0 ∨ r.length + 1 < Utf.sizeOf c.toNat then (0, 0)
    else match Utf.more (Utf.headOf c.toNat) (r.take (Utf.sizeOf c.toNat - 1)) with
      | none => (0, 0)
      | some p => if Utf.sz p = Utf.sizeOf c.toNat then (p, Utf.sizeOf c.toNat) else (0, 0) := rfl
def nextV (p : Nat × Nat) : Value := .tuple #[.int .i64 (p.1 : Int), .int .i64 (p.2 : Int)]
theorem more_step {p : Nat} {c : UInt8} {l : List UInt8} (h : c.toNat / 64 = 2) : Utf.more p (c :: l) = Utf.more (p * 64 + c.toNat % 64) l := by rw [Utf.more, if_pos h]
theorem more_fail {p : Nat} {c : UInt8} {l : List UInt8} (h : ¬ c.toNat / 64 = 2) : Utf.more p (c :: l) = none := by rw [Utf.more, if_neg h]
theorem bnd_step {p j c : Nat} (h : p < 128 * 64 ^ j) : p * 64 + c % 64 < 128 * 64 ^ (j + 1) := by rw [Nat.pow_succ]; omega
theorem bnd_lt {p j : Nat} (h : p < 128 * 64 ^ j) (hj : j ≤ 3) : p < 33554432 := Nat.lt_of_lt_of_le h (Nat.mul_le_mul_left 128 (Nat.pow_le_pow_right (by omega) hj : 64 ^ j ≤ 64 ^ 3))
set_option maxHeartbeats 8000000 in
theorem next_any (A : Option Addr) (n c : Nat) (l : List UInt8) (w : World) (hA : RB w A n l) (h0 : 0 < n) (hc : n ≤ c) (hn : n ≤ 1048576) (hg : Gl w) :
    Calls Tryd.prog 53 #[.slice A n c] w fun e w' => e = .returned (nextV (Utf.dec l)) ∧ Below w.heap.size w w' := by
  have hl := hA.len
  obtain ⟨b, o, rfl, hbl, hc0⟩ := hA.cell (k := 0) (by omega)
  rw [Nat.add_zero] at hc0
  obtain ⟨x, r, rfl⟩ : ∃ x r, l = x :: r := by
    cases l with
    | nil => simp at hl; omega
    | cons x r => exact ⟨x, r, rfl⟩
  rw [List.getElem_cons_zero] at hc0
  have HD := hide (dec_cons x r)
  have hrl : r.length + 1 = n := by simpa using hl
  have hx := x.toNat_lt
  have HX := hide (show x.toNat < 256 by omega)
  have HG := hide hg
  have n0 : (0 : Int) < (n : Int) := by omega
  have hS4 := (size_iff (c := x.toNat) (by omega)).2.2.2.2
  have HA := hide hA
  have HRL := hide hrl
  rw [hrl] at HD
  clear hA hl hrl
  go_enter Tryd.func53, Tryd.ntmps53
  go_wp2_with fail
  refine Calls.mono (sized_any x.toNat HX.out w hg) ?_
  rintro e w1 ⟨rfl, hb1⟩
  have HB1 := hide hb1
  have hg1 := HG.out.on hb1
  obtain ⟨g0, g1⟩ := hg1.olds
  have hc1 := keep_cell hb1 hc0
  have HC1 := hide hc1
  clear hb1 hg1 hc0 hg
  by_cases hS0 : Utf.sizeOf x.toNat = 0
  · have HF := hide (show Utf.dec (x :: r) = (0, 0) by rw [HD.out, if_pos (Or.inl hS0)])
    rw [hS0]
    clear hS0 hS4 hx
    rw [show bitsOf 0 = 0 from rfl, show markOf 0 = 0 from rfl]
    go_wp2_with fail
    go_ret2
    exact ⟨by rw [HF.out]; rfl, below_then HB1.out (below_alloc w1 _)⟩
  by_cases hSn : n < Utf.sizeOf x.toNat
  · have HF := hide (show Utf.dec (x :: r) = (0, 0) by rw [HD.out, if_pos (Or.inr hSn)])
    have HS := hide (And.intro hS0 (And.intro hSn hS4))
    have hcs : Utf.sizeOf x.toNat = 2 ∨ Utf.sizeOf x.toNat = 3 ∨ Utf.sizeOf x.toNat = 4 := by omega
    clear hS0 hx
    rcases hcs with hS | hS | hS
    · have hns : (n : Int) < 2 := by omega
      rw [hS]
      clear hS hS4 hSn
      rw [show bitsOf 2 = 5 from rfl, show markOf 2 = 192 from rfl]
      go_wp2_with fail
      go_ret2
      exact ⟨by rw [HF.out]; rfl, below_then HB1.out (below_alloc w1 _)⟩
    · have hns : (n : Int) < 3 := by omega
      rw [hS]
      clear hS hS4 hSn
      rw [show bitsOf 3 = 4 from rfl, show markOf 3 = 224 from rfl]
      go_wp2_with fail
      go_ret2
      exact ⟨by rw [HF.out]; rfl, below_then HB1.out (below_alloc w1 _)⟩
    · have hns : (n : Int) < 4 := by omega
      rw [hS]
      clear hS hS4 hSn
      rw [show bitsOf 4 = 3 from rfl, show markOf 4 = 240 from rfl]
      go_wp2_with fail
      go_ret2
      exact ⟨by rw [HF.out]; rfl, below_then HB1.out (below_alloc w1 _)⟩
  have hcs : Utf.sizeOf x.toNat = 1 ∨ Utf.sizeOf x.toNat = 2 ∨ Utf.sizeOf x.toNat = 3 ∨ Utf.sizeOf x.toNat = 4 := by omega
  have HD2 := hide (HD.out.trans (if_neg (fun h => h.elim hS0 hSn)))
  clear hS4
  rcases hcs with hS | hS | hS | hS
  · have hns : (1 : Nat) ≤ n := by omega
    have hns' : ¬ (n : Int) < 1 := by omega
    have hs1 : (1 : Int) ≤ (n : Int) := by omega
    have hs2 : (1 : Int) ≤ (c : Int) := by omega
    have HH := hide (show Utf.headOf x.toNat = x.toNat % 128 by have := size_iff HX.out; unfold Utf.headOf; rw [if_pos (by omega)]; omega)
    rw [hS] at HD2 ⊢
    have hp : Go.bits .and .i64 (x.toNat : Int) 127 = ((x.toNat % 128 : Nat) : Int) := by rw [i64_and127' (by omega) (by omega)]; omega
    obtain ⟨p0, hp0⟩ : ∃ p0, p0 = x.toNat % 128 := ⟨_, rfl⟩
    rw [← hp0] at hp
    have HP0 := hide (show Utf.headOf x.toNat = p0 by rw [HH.out, hp0])
    have hpl : p0 < 128 := by omega
    rw [HP0.out] at HD2
    rw [show bitsOf 1 = 7 from rfl, show markOf 1 = 0 from rfl]
    have HR1 := hide (HA.out.on HB1.out)
    obtain ⟨A', hcut, hrb⟩ := cut_any (lo := 1) (hi := 1) (HR1.out.on (below_alloc w1 (.cells #[.int .i64 7, .int .i64 0] 104))) (by omega) hns hc
    have hcut' : ∀ W : World, (Instr.sliceAt 29 (.slice (some ⟨b, o, none⟩) n c) (some (.int .i64 1)) (some (.int .i64 1)) none).run Tryd.prog W = .ok (.slice A' 0 (c - 1)) W := hcut
    have HRB := hide hrb
    have HPL := hide hpl
    clear hS hcut hrb hp0 hpl hS0 hSn hns
    have hc2 : ∀ o2, (w1.alloc o2).cell? ⟨b, o, none⟩ = some (.int .u8 (x.toNat : Int)) := fun o2 => keep_cell (below_alloc w1 o2) hc1
    go_wp2_with fail
    go_quiet (fail)
    have HRB2 : Hid (RB ((w1.alloc (.cells #[.int .i64 7, .int .i64 0] 104)).drewN nq) A' 0 (r.take 0)) := hide (HRB.out.on (below_drewN _ nq))
    have HBV := hide (below_then HB1.out (below_then (below_alloc w1 (.cells #[.int .i64 7, .int .i64 0] 104)) (below_drewN _ nq)))
    generalize (w1.alloc (.cells #[.int .i64 7, .int .i64 0] 104)).drewN nq = V at *
    clear HRB hc2 g0 g1 hc1 hp
    go_wp2_with fail
    go_loop [6, 38] (fun a i => ∃ j p : Nat, j ≤ 0 ∧ a = .int .i64 (p : Int) ∧ i = .int .i64 (j : Int) ∧ Hid (Utf.more p ((r.take 0).drop j) = Utf.more p0 (r.take 0)) ∧ Hid (p < 128 * 64 ^ j)) (fun _ i => 0 - (intOf i).toNat)
    case atStart => exact ⟨0, p0, by omega, rfl, rfl, hide rfl, hide (by have := HPL.out; omega)⟩
    case round =>
      obtain ⟨j, p, hj, rfl, rfl, hm, hb⟩ := hrel
      have hlen : (r.take 0).length = 0 := HRB2.out.len
      by_cases hlt : j < 0
      · have hjl : j < (r.take 0).length := by omega
        obtain ⟨b', o', rfl, hb', hcj⟩ := HRB2.out.cell hjl
        have hdr : (r.take 0).drop j = (r.take 0)[j] :: (r.take 0).drop (j + 1) := List.drop_eq_getElem_cons hjl
        have hm2 := hm.out
        rw [hdr] at hm2
        generalize (r.take 0)[j] = yb at *
        have hyl := yb.toNat_lt
        have hbl := bnd_lt hb.out (by omega)
        by_cases hy : yb.toNat / 64 = 2
        · rw [more_step hy] at hm2
          have HM2 := hide hm2
          have HB2 := hide (bnd_step (c := yb.toNat) hb.out)
          have ht : ((yb.toNat : Int) / 64 != 2) = false := by rw [bne_eq_false_iff_eq]; omega
          clear hdr hm2 hm hy hlen hjl
          generalize yb.toNat = y at *
          have ha : Go.bits .and .u8 (y : Int) 63 = ((y % 64 : Nat) : Int) := by rw [u8_and63' (by omega) (by omega)]; omega
          have hw : wrap64 ((p : Int) * 64) = (p : Int) * 64 := by unfold wrap64; omega
          have hv : IntKind.i64.wrap ((y % 64 : Nat) : Int) = ((y % 64 : Nat) : Int) := by rw [IntKind.wrap_i64]; omega
          have hor : Go.bits .or .i64 ((p : Int) * 64) ((y % 64 : Nat) : Int) = ((p * 64 + y % 64 : Nat) : Int) := by rw [i64_or6 (by omega) (by omega) (by omega) (by omega) (by omega)]; omega
          have hj0 : (0 : Int) ≤ (j : Int) := by omega
          have hj1 : (j : Int) < 0 := by omega
          generalize y % 64 = z at *
          clear hbl hyl hb
          go_wp2_with fail
          exact ⟨⟨j + 1, p * 64 + z, by omega, rfl, by go_num, HM2, HB2⟩, by simp [intOf]; omega⟩
        · rw [more_fail hy] at hm2
          have HF := hide (show Utf.dec (x :: r) = (0, 0) by rw [HD2.out, show 1 - 1 = 0 from rfl, ← hm2])
          have ht : ((yb.toNat : Int) / 64 != 2) = true := by rw [bne_iff_ne]; omega
          have hj0 : (0 : Int) ≤ (j : Int) := by omega
          have hj1 : (j : Int) < 0 := by omega
          clear hdr hm2 hm hy hlen hjl hbl hyl hb
          go_wp2_with fail
          go_ret2
          exact ⟨by rw [HF.out]; rfl, HBV.out⟩
      · obtain rfl : j = 0 := by omega
        have hm2 := hm.out
        rw [List.drop_eq_nil_of_le (by omega), Utf.more] at hm2
        have HD3 := hide (show Utf.dec (x :: r) = if Utf.sz p = 1 then (p, 1) else (0, 0) by rw [HD2.out, show 1 - 1 = 0 from rfl, ← hm2])
        clear hm2 hm hlen hb
        go_wp2_with fail
        refine Calls.mono (size_any (p : Int) V) ?_
        rintro e w2 ⟨rfl, rfl⟩
        by_cases hsz : Utf.sz p = 1
        · have HF := hide (show Utf.dec (x :: r) = (p, 1) by rw [HD3.out, if_pos hsz])
          rw [hsz]
          clear hsz
          go_wp2_with fail
          go_ret2
          exact ⟨by rw [HF.out]; rfl, HBV.out⟩
        · have HF := hide (show Utf.dec (x :: r) = (0, 0) by rw [HD3.out, if_neg hsz])
          have hne : ((Utf.sz p : Int) != 1) = true := by rw [bne_iff_ne]; omega
          clear hsz
          go_wp2_with fail
          go_ret2
          exact ⟨by rw [HF.out]; rfl, HBV.out⟩
  · have hns : (2 : Nat) ≤ n := by omega
    have hns' : ¬ (n : Int) < 2 := by omega
    have hs1 : (2 : Int) ≤ (n : Int) := by omega
    have hs2 : (2 : Int) ≤ (c : Int) := by omega
    have HH := hide (show Utf.headOf x.toNat = x.toNat % 32 by have := size_iff HX.out; unfold Utf.headOf; rw [if_neg (by omega), if_pos (by omega)])
    rw [hS] at HD2 ⊢
    have hp : Go.bits .and .i64 (x.toNat : Int) 31 = ((x.toNat % 32 : Nat) : Int) := by rw [i64_and31 (by omega) (by omega)]; omega
    obtain ⟨p0, hp0⟩ : ∃ p0, p0 = x.toNat % 32 := ⟨_, rfl⟩
    rw [← hp0] at hp
    have HP0 := hide (show Utf.headOf x.toNat = p0 by rw [HH.out, hp0])
    have hpl : p0 < 128 := by omega
    rw [HP0.out] at HD2
    rw [show bitsOf 2 = 5 from rfl, show markOf 2 = 192 from rfl]
    have HR1 := hide (HA.out.on HB1.out)
    obtain ⟨A', hcut, hrb⟩ := cut_any (lo := 1) (hi := 2) (HR1.out.on (below_alloc w1 (.cells #[.int .i64 5, .int .i64 192] 104))) (by omega) hns hc
    have hcut' : ∀ W : World, (Instr.sliceAt 29 (.slice (some ⟨b, o, none⟩) n c) (some (.int .i64 1)) (some (.int .i64 2)) none).run Tryd.prog W = .ok (.slice A' 1 (c - 1)) W := hcut
    have HRB := hide hrb
    have HPL := hide hpl
    clear hS hcut hrb hp0 hpl hS0 hSn hns
    have hc2 : ∀ o2, (w1.alloc o2).cell? ⟨b, o, none⟩ = some (.int .u8 (x.toNat : Int)) := fun o2 => keep_cell (below_alloc w1 o2) hc1
    go_wp2_with fail
    go_quiet (fail)
    have HRB2 : Hid (RB ((w1.alloc (.cells #[.int .i64 5, .int .i64 192] 104)).drewN nq) A' 1 (r.take 1)) := hide (HRB.out.on (below_drewN _ nq))
    have HBV := hide (below_then HB1.out (below_then (below_alloc w1 (.cells #[.int .i64 5, .int .i64 192] 104)) (below_drewN _ nq)))
    generalize (w1.alloc (.cells #[.int .i64 5, .int .i64 192] 104)).drewN nq = V at *
    clear HRB hc2 g0 g1 hc1 hp
    go_wp2_with fail
    go_loop [6, 38] (fun a i => ∃ j p : Nat, j ≤ 1 ∧ a = .int .i64 (p : Int) ∧ i = .int .i64 (j : Int) ∧ Hid (Utf.more p ((r.take 1).drop j) = Utf.more p0 (r.take 1)) ∧ Hid (p < 128 * 64 ^ j)) (fun _ i => 1 - (intOf i).toNat)
    case atStart => exact ⟨0, p0, by omega, rfl, rfl, hide rfl, hide (by have := HPL.out; omega)⟩
    case round =>
      obtain ⟨j, p, hj, rfl, rfl, hm, hb⟩ := hrel
      have hlen : (r.take 1).length = 1 := HRB2.out.len
      by_cases hlt : j < 1
      · have hjl : j < (r.take 1).length := by omega
        obtain ⟨b', o', rfl, hb', hcj⟩ := HRB2.out.cell hjl
        have hdr : (r.take 1).drop j = (r.take 1)[j] :: (r.take 1).drop (j + 1) := List.drop_eq_getElem_cons hjl
        have hm2 := hm.out
        rw [hdr] at hm2
        generalize (r.take 1)[j] = yb at *
        have hyl := yb.toNat_lt
        have hbl := bnd_lt hb.out (by omega)
        by_cases hy : yb.toNat / 64 = 2
        · rw [more_step hy] at hm2
          have HM2 := hide hm2
          have HB2 := hide (bnd_step (c := yb.toNat) hb.out)
          have ht : ((yb.toNat : Int) / 64 != 2) = false := by rw [bne_eq_false_iff_eq]; omega
          clear hdr hm2 hm hy hlen hjl
          generalize yb.toNat = y at *
          have ha : Go.bits .and .u8 (y : Int) 63 = ((y % 64 : Nat) : Int) := by rw [u8_and63' (by omega) (by omega)]; omega
          have hw : wrap64 ((p : Int) * 64) = (p : Int) * 64 := by unfold wrap64; omega
          have hv : IntKind.i64.wrap ((y % 64 : Nat) : Int) = ((y % 64 : Nat) : Int) := by rw [IntKind.wrap_i64]; omega
          have hor : Go.bits .or .i64 ((p : Int) * 64) ((y % 64 : Nat) : Int) = ((p * 64 + y % 64 : Nat) : Int) := by rw [i64_or6 (by omega) (by omega) (by omega) (by omega) (by omega)]; omega
          have hj0 : (0 : Int) ≤ (j : Int) := by omega
          have hj1 : (j : Int) < 1 := by omega
          generalize y % 64 = z at *
          clear hbl hyl hb
          go_wp2_with fail
          exact ⟨⟨j + 1, p * 64 + z, by omega, rfl, by go_num, HM2, HB2⟩, by simp [intOf]; omega⟩
        · rw [more_fail hy] at hm2
          have HF := hide (show Utf.dec (x :: r) = (0, 0) by rw [HD2.out, show 2 - 1 = 1 from rfl, ← hm2])
          have ht : ((yb.toNat : Int) / 64 != 2) = true := by rw [bne_iff_ne]; omega
          have hj0 : (0 : Int) ≤ (j : Int) := by omega
          have hj1 : (j : Int) < 1 := by omega
          clear hdr hm2 hm hy hlen hjl hbl hyl hb
          go_wp2_with fail
          go_ret2
          exact ⟨by rw [HF.out]; rfl, HBV.out⟩
      · obtain rfl : j = 1 := by omega
        have hm2 := hm.out
        rw [List.drop_eq_nil_of_le (by omega), Utf.more] at hm2
        have HD3 := hide (show Utf.dec (x :: r) = if Utf.sz p = 2 then (p, 2) else (0, 0) by rw [HD2.out, show 2 - 1 = 1 from rfl, ← hm2])
        clear hm2 hm hlen hb
        go_wp2_with fail
        refine Calls.mono (size_any (p : Int) V) ?_
        rintro e w2 ⟨rfl, rfl⟩
        by_cases hsz : Utf.sz p = 2
        · have HF := hide (show Utf.dec (x :: r) = (p, 2) by rw [HD3.out, if_pos hsz])
          rw [hsz]
          clear hsz
          go_wp2_with fail
          go_ret2
          exact ⟨by rw [HF.out]; rfl, HBV.out⟩
        · have HF := hide (show Utf.dec (x :: r) = (0, 0) by rw [HD3.out, if_neg hsz])
          have hne : ((Utf.sz p : Int) != 2) = true := by rw [bne_iff_ne]; omega
          clear hsz
          go_wp2_with fail
          go_ret2
          exact ⟨by rw [HF.out]; rfl, HBV.out⟩
  · have hns : (3 : Nat) ≤ n := by omega
    have hns' : ¬ (n : Int) < 3 := by omega
    have hs1 : (3 : Int) ≤ (n : Int) := by omega
    have hs2 : (3 : Int) ≤ (c : Int) := by omega
    have HH := hide (show Utf.headOf x.toNat = x.toNat % 16 by have := size_iff HX.out; unfold Utf.headOf; rw [if_neg (by omega), if_neg (by omega), if_pos (by omega)])
    rw [hS] at HD2 ⊢
    have hp : Go.bits .and .i64 (x.toNat : Int) 15 = ((x.toNat % 16 : Nat) : Int) := by rw [i64_and15 (by omega) (by omega)]; omega
    obtain ⟨p0, hp0⟩ : ∃ p0, p0 = x.toNat % 16 := ⟨_, rfl⟩
    rw [← hp0] at hp
    have HP0 := hide (show Utf.headOf x.toNat = p0 by rw [HH.out, hp0])
    have hpl : p0 < 128 := by omega
    rw [HP0.out] at HD2
    rw [show bitsOf 3 = 4 from rfl, show markOf 3 = 224 from rfl]
    have HR1 := hide (HA.out.on HB1.out)
    obtain ⟨A', hcut, hrb⟩ := cut_any (lo := 1) (hi := 3) (HR1.out.on (below_alloc w1 (.cells #[.int .i64 4, .int .i64 224] 104))) (by omega) hns hc
    have hcut' : ∀ W : World, (Instr.sliceAt 29 (.slice (some ⟨b, o, none⟩) n c) (some (.int .i64 1)) (some (.int .i64 3)) none).run Tryd.prog W = .ok (.slice A' 2 (c - 1)) W := hcut
    have HRB := hide hrb
    have HPL := hide hpl
    clear hS hcut hrb hp0 hpl hS0 hSn hns
    have hc2 : ∀ o2, (w1.alloc o2).cell? ⟨b, o, none⟩ = some (.int .u8 (x.toNat : Int)) := fun o2 => keep_cell (below_alloc w1 o2) hc1
    go_wp2_with fail
    go_quiet (fail)
    have HRB2 : Hid (RB ((w1.alloc (.cells #[.int .i64 4, .int .i64 224] 104)).drewN nq) A' 2 (r.take 2)) := hide (HRB.out.on (below_drewN _ nq))
    have HBV := hide (below_then HB1.out (below_then (below_alloc w1 (.cells #[.int .i64 4, .int .i64 224] 104)) (below_drewN _ nq)))
    generalize (w1.alloc (.cells #[.int .i64 4, .int .i64 224] 104)).drewN nq = V at *
    clear HRB hc2 g0 g1 hc1 hp
    go_wp2_with fail
    go_loop [6, 38] (fun a i => ∃ j p : Nat, j ≤ 2 ∧ a = .int .i64 (p : Int) ∧ i = .int .i64 (j : Int) ∧ Hid (Utf.more p ((r.take 2).drop j) = Utf.more p0 (r.take 2)) ∧ Hid (p < 128 * 64 ^ j)) (fun _ i => 2 - (intOf i).toNat)
    case atStart => exact ⟨0, p0, by omega, rfl, rfl, hide rfl, hide (by have := HPL.out; omega)⟩
    case round =>
      obtain ⟨j, p, hj, rfl, rfl, hm, hb⟩ := hrel
      have hlen : (r.take 2).length = 2 := HRB2.out.len
      by_cases hlt : j < 2
      · have hjl : j < (r.take 2).length := by omega
        obtain ⟨b', o', rfl, hb', hcj⟩ := HRB2.out.cell hjl
        have hdr : (r.take 2).drop j = (r.take 2)[j] :: (r.take 2).drop (j + 1) := List.drop_eq_getElem_cons hjl
        have hm2 := hm.out
        rw [hdr] at hm2
        generalize (r.take 2)[j] = yb at *
        have hyl := yb.toNat_lt
        have hbl := bnd_lt hb.out (by omega)
        by_cases hy : yb.toNat / 64 = 2
        · rw [more_step hy] at hm2
          have HM2 := hide hm2
          have HB2 := hide (bnd_step (c := yb.toNat) hb.out)
          have ht : ((yb.toNat : Int) / 64 != 2) = false := by rw [bne_eq_false_iff_eq]; omega
          clear hdr hm2 hm hy hlen hjl
          generalize yb.toNat = y at *
          have ha : Go.bits .and .u8 (y : Int) 63 = ((y % 64 : Nat) : Int) := by rw [u8_and63' (by omega) (by omega)]; omega
          have hw : wrap64 ((p : Int) * 64) = (p : Int) * 64 := by unfold wrap64; omega
          have hv : IntKind.i64.wrap ((y % 64 : Nat) : Int) = ((y % 64 : Nat) : Int) := by rw [IntKind.wrap_i64]; omega
          have hor : Go.bits .or .i64 ((p : Int) * 64) ((y % 64 : Nat) : Int) = ((p * 64 + y % 64 : Nat) : Int) := by rw [i64_or6 (by omega) (by omega) (by omega) (by omega) (by omega)]; omega
          have hj0 : (0 : Int) ≤ (j : Int) := by omega
          have hj1 : (j : Int) < 2 := by omega
          generalize y % 64 = z at *
          clear hbl hyl hb
          go_wp2_with fail
          exact ⟨⟨j + 1, p * 64 + z, by omega, rfl, by go_num, HM2, HB2⟩, by simp [intOf]; omega⟩
        · rw [more_fail hy] at hm2
          have HF := hide (show Utf.dec (x :: r) = (0, 0) by rw [HD2.out, show 3 - 1 = 2 from rfl, ← hm2])
          have ht : ((yb.toNat : Int) / 64 != 2) = true := by rw [bne_iff_ne]; omega
          have hj0 : (0 : Int) ≤ (j : Int) := by omega
          have hj1 : (j : Int) < 2 := by omega
          clear hdr hm2 hm hy hlen hjl hbl hyl hb
          go_wp2_with fail
          go_ret2
          exact ⟨by rw [HF.out]; rfl, HBV.out⟩
      · obtain rfl : j = 2 := by omega
        have hm2 := hm.out
        rw [List.drop_eq_nil_of_le (by omega), Utf.more] at hm2
        have HD3 := hide (show Utf.dec (x :: r) = if Utf.sz p = 3 then (p, 3) else (0, 0) by rw [HD2.out, show 3 - 1 = 2 from rfl, ← hm2])
        clear hm2 hm hlen hb
        go_wp2_with fail
        refine Calls.mono (size_any (p : Int) V) ?_
        rintro e w2 ⟨rfl, rfl⟩
        by_cases hsz : Utf.sz p = 3
        · have HF := hide (show Utf.dec (x :: r) = (p, 3) by rw [HD3.out, if_pos hsz])
          rw [hsz]
          clear hsz
          go_wp2_with fail
          go_ret2
          exact ⟨by rw [HF.out]; rfl, HBV.out⟩
        · have HF := hide (show Utf.dec (x :: r) = (0, 0) by rw [HD3.out, if_neg hsz])
          have hne : ((Utf.sz p : Int) != 3) = true := by rw [bne_iff_ne]; omega
          clear hsz
          go_wp2_with fail
          go_ret2
          exact ⟨by rw [HF.out]; rfl, HBV.out⟩
  · have hns : (4 : Nat) ≤ n := by omega
    have hns' : ¬ (n : Int) < 4 := by omega
    have hs1 : (4 : Int) ≤ (n : Int) := by omega
    have hs2 : (4 : Int) ≤ (c : Int) := by omega
    have HH := hide (show Utf.headOf x.toNat = x.toNat % 8 by have := size_iff HX.out; unfold Utf.headOf; rw [if_neg (by omega), if_neg (by omega), if_neg (by omega)])
    rw [hS] at HD2 ⊢
    have hp : Go.bits .and .i64 (x.toNat : Int) 7 = ((x.toNat % 8 : Nat) : Int) := by rw [i64_and7 (by omega) (by omega)]; omega
    obtain ⟨p0, hp0⟩ : ∃ p0, p0 = x.toNat % 8 := ⟨_, rfl⟩
    rw [← hp0] at hp
    have HP0 := hide (show Utf.headOf x.toNat = p0 by rw [HH.out, hp0])
    have hpl : p0 < 128 := by omega
    rw [HP0.out] at HD2
    rw [show bitsOf 4 = 3 from rfl, show markOf 4 = 240 from rfl]
    have HR1 := hide (HA.out.on HB1.out)
    obtain ⟨A', hcut, hrb⟩ := cut_any (lo := 1) (hi := 4) (HR1.out.on (below_alloc w1 (.cells #[.int .i64 3, .int .i64 240] 104))) (by omega) hns hc
    have hcut' : ∀ W : World, (Instr.sliceAt 29 (.slice (some ⟨b, o, none⟩) n c) (some (.int .i64 1)) (some (.int .i64 4)) none).run Tryd.prog W = .ok (.slice A' 3 (c - 1)) W := hcut
    have HRB := hide hrb
    have HPL := hide hpl
    clear hS hcut hrb hp0 hpl hS0 hSn hns
    have hc2 : ∀ o2, (w1.alloc o2).cell? ⟨b, o, none⟩ = some (.int .u8 (x.toNat : Int)) := fun o2 => keep_cell (below_alloc w1 o2) hc1
    go_wp2_with fail
    go_quiet (fail)
    have HRB2 : Hid (RB ((w1.alloc (.cells #[.int .i64 3, .int .i64 240] 104)).drewN nq) A' 3 (r.take 3)) := hide (HRB.out.on (below_drewN _ nq))
    have HBV := hide (below_then HB1.out (below_then (below_alloc w1 (.cells #[.int .i64 3, .int .i64 240] 104)) (below_drewN _ nq)))
    generalize (w1.alloc (.cells #[.int .i64 3, .int .i64 240] 104)).drewN nq = V at *
    clear HRB hc2 g0 g1 hc1 hp
    go_wp2_with fail
    go_loop [6, 38] (fun a i => ∃ j p : Nat, j ≤ 3 ∧ a = .int .i64 (p : Int) ∧ i = .int .i64 (j : Int) ∧ Hid (Utf.more p ((r.take 3).drop j) = Utf.more p0 (r.take 3)) ∧ Hid (p < 128 * 64 ^ j)) (fun _ i => 3 - (intOf i).toNat)
    case atStart => exact ⟨0, p0, by omega, rfl, rfl, hide rfl, hide (by have := HPL.out; omega)⟩
    case round =>
      obtain ⟨j, p, hj, rfl, rfl, hm, hb⟩ := hrel
      have hlen : (r.take 3).length = 3 := HRB2.out.len
      by_cases hlt : j < 3
      · have hjl : j < (r.take 3).length := by omega
        obtain ⟨b', o', rfl, hb', hcj⟩ := HRB2.out.cell hjl
        have hdr : (r.take 3).drop j = (r.take 3)[j] :: (r.take 3).drop (j + 1) := List.drop_eq_getElem_cons hjl
        have hm2 := hm.out
        rw [hdr] at hm2
        generalize (r.take 3)[j] = yb at *
        have hyl := yb.toNat_lt
        have hbl := bnd_lt hb.out (by omega)
        by_cases hy : yb.toNat / 64 = 2
        · rw [more_step hy] at hm2
          have HM2 := hide hm2
          have HB2 := hide (bnd_step (c := yb.toNat) hb.out)
          have ht : ((yb.toNat : Int) / 64 != 2) = false := by rw [bne_eq_false_iff_eq]; omega
          clear hdr hm2 hm hy hlen hjl
          generalize yb.toNat = y at *
          have ha : Go.bits .and .u8 (y : Int) 63 = ((y % 64 : Nat) : Int) := by rw [u8_and63' (by omega) (by omega)]; omega
          have hw : wrap64 ((p : Int) * 64) = (p : Int) * 64 := by unfold wrap64; omega
          have hv : IntKind.i64.wrap ((y % 64 : Nat) : Int) = ((y % 64 : Nat) : Int) := by rw [IntKind.wrap_i64]; omega
          have hor : Go.bits .or .i64 ((p : Int) * 64) ((y % 64 : Nat) : Int) = ((p * 64 + y % 64 : Nat) : Int) := by rw [i64_or6 (by omega) (by omega) (by omega) (by omega) (by omega)]; omega
          have hj0 : (0 : Int) ≤ (j : Int) := by omega
          have hj1 : (j : Int) < 3 := by omega
          generalize y % 64 = z at *
          clear hbl hyl hb
          go_wp2_with fail
          exact ⟨⟨j + 1, p * 64 + z, by omega, rfl, by go_num, HM2, HB2⟩, by simp [intOf]; omega⟩
        · rw [more_fail hy] at hm2
          have HF := hide (show Utf.dec (x :: r) = (0, 0) by rw [HD2.out, show 4 - 1 = 3 from rfl, ← hm2])
          have ht : ((yb.toNat : Int) / 64 != 2) = true := by rw [bne_iff_ne]; omega
          have hj0 : (0 : Int) ≤ (j : Int) := by omega
          have hj1 : (j : Int) < 3 := by omega
          clear hdr hm2 hm hy hlen hjl hbl hyl hb
          go_wp2_with fail
          go_ret2
          exact ⟨by rw [HF.out]; rfl, HBV.out⟩
      · obtain rfl : j = 3 := by omega
        have hm2 := hm.out
        rw [List.drop_eq_nil_of_le (by omega), Utf.more] at hm2
        have HD3 := hide (show Utf.dec (x :: r) = if Utf.sz p = 4 then (p, 4) else (0, 0) by rw [HD2.out, show 4 - 1 = 3 from rfl, ← hm2])
        clear hm2 hm hlen hb
        go_wp2_with fail
        refine Calls.mono (size_any (p : Int) V) ?_
        rintro e w2 ⟨rfl, rfl⟩
        by_cases hsz : Utf.sz p = 4
        · have HF := hide (show Utf.dec (x :: r) = (p, 4) by rw [HD3.out, if_pos hsz])
          rw [hsz]
          clear hsz
          go_wp2_with fail
          go_ret2
          exact ⟨by rw [HF.out]; rfl, HBV.out⟩
        · have HF := hide (show Utf.dec (x :: r) = (0, 0) by rw [HD3.out, if_neg hsz])
          have hne : ((Utf.sz p : Int) != 4) = true := by rw [bne_iff_ne]; omega
          clear hsz
          go_wp2_with fail
          go_ret2
          exact ⟨by rw [HF.out]; rfl, HBV.out⟩
end Go.Proofs.YtbnibiealnogdaaDoor
