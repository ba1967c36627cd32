/- The walks of doc's number, Decode. -/
import Derived.Test.YtmkkbomkonociaaDoorDocCode
import Derived.Deep.WholeRow
namespace Go.Proofs.YtmkkbomkonociaaDoor
open Go.RowKit
attribute [local go_sem] Dag.gives

/-- the number of four bytes -/
def num4 (l : List UInt8) : Nat := (l.getD 0 0).toNat * 16777216 + (l.getD 1 0).toNat * 65536 + (l.getD 2 0).toNat * 256 + (l.getD 3 0).toNat

theorem or4 {x0 x1 x2 x3 : Nat} (h0 : x0 < 256) (h1 : x1 < 256) (h2 : x2 < 256) (h3 : x3 < 256) :
    Go.bits .or .u32 (Go.bits .or .u32 (Go.bits .or .u32 ((x0 : Int) % 4294967296 * 16777216 % 4294967296) ((x1 : Int) % 4294967296 * 65536 % 4294967296)) ((x2 : Int) % 4294967296 * 256 % 4294967296)) ((x3 : Int) % 4294967296) = ((x0 * 16777216 + x1 * 65536 + x2 * 256 + x3 : Nat) : Int) := by
  rw [show (x0 : Int) % 4294967296 * 16777216 % 4294967296 = ((x0 * 16777216 : Nat) : Int) by omega, show (x1 : Int) % 4294967296 * 65536 % 4294967296 = ((x1 * 65536 : Nat) : Int) by omega, show (x2 : Int) % 4294967296 * 256 % 4294967296 = ((x2 * 256 : Nat) : Int) by omega, show (x3 : Int) % 4294967296 = ((x3 : Nat) : Int) by omega]
  have e1 : x0 * 16777216 ||| x1 * 65536 = x0 * 16777216 + x1 * 65536 := by
    rw [show x0 * 16777216 = 2 ^ 24 * x0 by omega, Nat.two_pow_add_eq_or_of_lt (by omega : x1 * 65536 < 2 ^ 24)]
  have e2 : (x0 * 16777216 + x1 * 65536) ||| x2 * 256 = x0 * 16777216 + x1 * 65536 + x2 * 256 := by
    rw [show x0 * 16777216 + x1 * 65536 = 2 ^ 16 * (x0 * 256 + x1) by omega, Nat.two_pow_add_eq_or_of_lt (by omega : x2 * 256 < 2 ^ 16)]
  have e3 : (x0 * 16777216 + x1 * 65536 + x2 * 256) ||| x3 = x0 * 16777216 + x1 * 65536 + x2 * 256 + x3 := by
    rw [show x0 * 16777216 + x1 * 65536 + x2 * 256 = 2 ^ 8 * (x0 * 65536 + x1 * 256 + x2) by omega, Nat.two_pow_add_eq_or_of_lt (by omega : x3 < 2 ^ 8)]
  rw [u32_or_nat _ _ (by omega) (by omega), e1, u32_or_nat _ _ (by omega) (by omega), e2, u32_or_nat _ _ (by omega) (by omega), e3]

theorem number_any (A : Option Addr) (n c : Nat) (l : List UInt8) (w : World) (hA : RB w A n l) (hn : 4 ≤ n) (hm : n ≤ 1048576) :
    Calls Tryd.prog 24 #[.slice A n c] w fun e w' => e = .returned (.int .u32 (num4 l : Nat)) ∧ ∃ q, w' = w.drewN q := by
  have hl := hA.len
  obtain ⟨b, o, rfl, _, c0⟩ := hA.cell (k := 0) (by omega)
  obtain ⟨b1, o1, e1, _, c1⟩ := hA.cell (k := 1) (by omega)
  obtain ⟨b2, o2, e2, _, c2⟩ := hA.cell (k := 2) (by omega)
  obtain ⟨b3, o3, e3, _, c3⟩ := hA.cell (k := 3) (by omega)
  injection e1 with e1; injection e1 with e1 e1'; subst e1; subst e1'
  injection e2 with e2; injection e2 with e2 e2'; subst e2; subst e2'
  injection e3 with e3; injection e3 with e3 e3'; subst e3; subst e3'
  rw [Nat.add_zero] at c0
  have HN := hide (show num4 l = l[0].toNat * 16777216 + l[1].toNat * 65536 + l[2].toNat * 256 + l[3].toNat by
    unfold num4
    simp only [List.getD_eq_getElem?_getD, List.getElem?_eq_getElem (show 0 < l.length by omega), List.getElem?_eq_getElem (show 1 < l.length by omega), List.getElem?_eq_getElem (show 2 < l.length by omega), List.getElem?_eq_getElem (show 3 < l.length by omega), Option.getD_some])
  have HX := hide (And.intro (l[0]).toNat_lt (And.intro (l[1]).toNat_lt (And.intro (l[2]).toNat_lt (l[3]).toNat_lt)))
  generalize l[0].toNat = x0 at *
  generalize l[1].toNat = x1 at *
  generalize l[2].toNat = x2 at *
  generalize l[3].toNat = x3 at *
  have n0 : (0 : Int) < (n : Int) := by omega
  have n1 : (1 : Int) < (n : Int) := by omega
  have n2 : (2 : Int) < (n : Int) := by omega
  have n3 : (3 : Int) < (n : Int) := by omega
  clear hA hl
  go_enter Tryd.func24, Tryd.ntmps24
  go_wp2_with fail
  go_quiet (fail)
  go_wp2_with fail
  go_ret
  obtain ⟨y0, y1, y2, y3⟩ := HX.out
  exact ⟨by rw [HN.out, ← or4 y0 y1 y2 y3]; rfl, nq, rfl⟩
/-- what bytes say -/
def decInf (l : List UInt8) : Inf := ⟨num4 l, num4 (l.drop 4), num4 (l.drop 8) * 4294967296 + num4 (l.drop 12), decide ((l.getD 16 0).toNat = 1), (num4 (l.drop 17) : Int)⟩
def decoded (l : List UInt8) : Inf × Nat :=
  if l.length < 21 then (⟨0, 0, 0, false, 0⟩, 6) else if mayB (decInf l) = true ∧ infBytes (decInf l) = l then (decInf l, 0) else (⟨0, 0, 0, false, 0⟩, 292)
def DecAs (l : List UInt8) (w : World) (e : Ending) (w' : World) : Prop :=
  Below w.heap.size w w' ∧ e = .returned (.tuple #[.agg (decoded l).1.cells, .int .i64 ((decoded l).2 : Int)])
theorem num4_lt (l : List UInt8) : num4 l < 4294967296 := by
  unfold num4
  have h0 := (l.getD 0 0).toNat_lt
  have h1 := (l.getD 1 0).toNat_lt
  have h2 := (l.getD 2 0).toNat_lt
  have h3 := (l.getD 3 0).toNat_lt
  omega
theorem decInf_ok (l : List UInt8) : (decInf l).Ok :=
  ⟨num4_lt _, num4_lt _, by have h1 := num4_lt (l.drop 8); have h2 := num4_lt (l.drop 12); show _ * _ + _ < _; omega, by show _ ≤ (num4 _ : Int); omega, by have := num4_lt (l.drop 17); show (num4 _ : Int) ≤ _; omega⟩
theorem or64 {x y : Nat} (hx : x < 4294967296) (hy : y < 4294967296) : Go.bits .or .u64 ((x * 4294967296 : Nat) : Int) (y : Int) = ((x * 4294967296 + y : Nat) : Int) := by
  rw [u64_or_nat _ _ (by omega) (by omega), show x * 4294967296 = 2 ^ 32 * x by omega, Nat.two_pow_add_eq_or_of_lt (by omega : y < 2 ^ 32)]

/-- a block made behind `base`, known whole -/
def Dag.Made (base : Nat) (cs : Array Value) (t : TypeId) : Value → World → Prop := fun v w => ∃ k, v = .pointer (some ⟨k, 0, none⟩) ∧ base ≤ k ∧ k < w.heap.size ∧ w.heap[k]? = some (.cells cs t (0, 0))
theorem Dag.Stable.made (base : Nat) (cs : Array Value) (t : TypeId) : Dag.Stable (Dag.Made base cs t) := fun _ _ _ hb ⟨k, hv, hk, hlt, h⟩ => ⟨k, hv, hk, Nat.lt_of_lt_of_le hlt hb.size, by rw [hb.block k hlt]; exact h⟩
set_option maxHeartbeats 4000000 in
theorem decode_any (A : Option Addr) (n c : Nat) (l : List UInt8) (w : World) (hA : RB w A n l) (hc : n ≤ c) (hn : n ≤ 1048576) :
    Calls Tryd.prog 10 #[.slice A n c] w (DecAs l w) := by
  have hl := hA.len
  by_cases hlt : n < 21
  · have HD := hide (show decoded l = (⟨0, 0, 0, false, 0⟩, 6) by unfold decoded; rw [if_pos (by omega)])
    go_enter Tryd.func10, Tryd.ntmps10
    go_wp2_with fail
    exact bodyPost_ret (v := .tuple #[.agg #[.int .u32 0, .int .u32 0, .int .u64 0, .bool false, .int .i64 0], .int .i64 6]) (by simp [results, Tryd.results10, go_sem]) rfl ⟨below_alloc _ _, by rw [HD.out]; rfl⟩
  · obtain ⟨b, o, rfl, hbl, hc16⟩ := hA.cell (k := 16) (by omega)
    have HL := hide hl
    have HD := hide (show decoded l = if mayB (decInf l) = true ∧ infBytes (decInf l) = l then (decInf l, 0) else (⟨0, 0, 0, false, 0⟩, 292) by unfold decoded; rw [if_neg (by omega)])
    have HOK := hide (decInf_ok l)
    have h16 : (l.getD 16 0).toNat = (l[16]'(by omega)).toNat := by rw [List.getD_eq_getElem?_getD, List.getElem?_eq_getElem (by omega), Option.getD_some]
    have HI := hide (show decInf l = ⟨num4 l, num4 (l.drop 4), num4 (l.drop 8) * 4294967296 + num4 (l.drop 12), decide ((l.getD 16 0).toNat = 1), (num4 (l.drop 17) : Int)⟩ from rfl)
    rw [h16] at HI
    have l2 := num4_lt (l.drop 8)
    have l3 := num4_lt (l.drop 12)
    have l4 := num4_lt (l.drop 17)
    obtain ⟨x0, X0⟩ : ∃ x, Hid (num4 l = x) := ⟨_, hide rfl⟩
    obtain ⟨x1, X1⟩ : ∃ x, Hid (num4 (l.drop 4) = x) := ⟨_, hide rfl⟩
    obtain ⟨x2, X2⟩ : ∃ x, Hid (num4 (l.drop 8) = x) := ⟨_, hide rfl⟩
    obtain ⟨x3, X3⟩ : ∃ x, Hid (num4 (l.drop 12) = x) := ⟨_, hide rfl⟩
    obtain ⟨x4, X4⟩ : ∃ x, Hid (num4 (l.drop 17) = x) := ⟨_, hide rfl⟩
    rw [X0.out, X1.out, X2.out, X3.out, X4.out] at HI
    rw [X2.out] at l2
    rw [X3.out] at l3
    rw [X4.out] at l4
    generalize (l[16]'(by omega)).toNat = z at *
    obtain ⟨y, hy⟩ : ∃ y, y = x2 * 4294967296 + x3 := ⟨_, rfl⟩
    obtain ⟨d, hd⟩ : ∃ d, d = decide (z = 1) := ⟨_, rfl⟩
    rw [← hy, ← hd] at HI
    have hzd : ((z : Int) == 1) = d := by rw [hd, Bool.eq_iff_iff, beq_iff_eq, decide_eq_true_eq]; omega
    have c2 : IntKind.u64.wrap (x2 : Int) = (x2 : Int) := by unfold IntKind.wrap; simp [IntKind.signed, IntKind.bits]; omega
    have c3 : IntKind.u64.wrap (x3 : Int) = (x3 : Int) := by unfold IntKind.wrap; simp [IntKind.signed, IntKind.bits]; omega
    have c4 : IntKind.i64.wrap (x4 : Int) = (x4 : Int) := by rw [IntKind.wrap_i64]; omega
    have s2 : IntKind.u64.wrap ((x2 : Int) * 4294967296) = (x2 : Int) * 4294967296 := by unfold IntKind.wrap; simp [IntKind.signed, IntKind.bits]; omega
    have s3 : Go.bits .or .u64 ((x2 : Int) * 4294967296) (x3 : Int) = (y : Int) := by rw [show (x2 : Int) * 4294967296 = ((x2 * 4294967296 : Nat) : Int) by omega, or64 l2 l3, hy]
    have b4 : (4 : Int) ≤ (n : Int) := by omega
    have b8 : (8 : Int) ≤ (n : Int) := by omega
    have b12 : (12 : Int) ≤ (n : Int) := by omega
    have b17 : (17 : Int) ≤ (n : Int) := by omega
    have b16 : (16 : Int) < (n : Int) := by omega
    have HLT := hide (And.intro l2 (And.intro l3 l4))
    have h21 : 21 ≤ n := by omega
    have hr1 : RB (w.alloc (.cells #[.int .u32 0, .int .u32 0, .int .u64 0, .bool false, .int .i64 0] 36)) (some ⟨b, o, none⟩) n l := hA.on (below_alloc _ _)
    have hc16 := keep_cell (below_alloc w (.cells #[.int .u32 0, .int .u32 0, .int .u64 0, .bool false, .int .i64 0] 36)) hc16
    have HA := hide hA
    clear hlt hl h16 l2 l3 l4 hy hd hA
    go_enter Tryd.func10, Tryd.ntmps10
    go_wp2_with fail
    refine Dag.wp_region_facts 26 (Dag.list [Dag.Is (.slice (some ⟨b, o, none⟩) n c), Dag.Is (.int .u32 (x0 : Int)), Dag.Is (.slice (some ⟨b, o, none⟩) n c), Dag.Sl (l.drop 4), Dag.Is (.int .u32 (x1 : Int)), Dag.Is (.agg #[.int .u32 (x0 : Int), .int .u32 (x1 : Int)]), Dag.Is (.slice (some ⟨b, o, none⟩) n c), Dag.Sl (l.drop 8), Dag.Is (.int .u32 (x2 : Int)), Dag.Is (.int .u64 (x2 : Int)), Dag.Is (.int .u64 ((x2 : Int) * 4294967296)), Dag.Is (.slice (some ⟨b, o, none⟩) n c), Dag.Sl (l.drop 12), Dag.Is (.int .u32 (x3 : Int)), Dag.Is (.int .u64 (x3 : Int)), Dag.Is (.int .u64 (y : Int)), Dag.Is (.slice (some ⟨b, o, none⟩) n c), Dag.Is (.pointer (some ⟨b, o + 16, none⟩)), Dag.Is (.int .u8 (z : Int)), Dag.Is (.bool d), Dag.Is (.slice (some ⟨b, o, none⟩) n c), Dag.Sl (l.drop 17), Dag.Is (.int .u32 (x4 : Int)), Dag.Is (.int .i64 (x4 : Int)), Dag.Is (.agg #[.int .u32 (x0 : Int), .int .u32 (x1 : Int), .int .u64 (y : Int), .bool d, .int .i64 (x4 : Int)]), Dag.Made (w.heap.size + 1) #[.int .u32 0, .int .u32 0, .int .u64 0, .bool false, .int .i64 0] 36]) (by kernel_rfl) (by kernel_rfl) (Dag.stable_list (by simp [Dag.Stable.is, Dag.Stable.sl, Dag.Stable.made])) ?_ ?_
    · intro vs W hbW
      simp only [Dag.allOps, List.take_succ_cons, List.take_zero, Dag.fill, Act.put, List.setIfInBounds_toArray, List.set_cons_succ, List.set_cons_zero, Dag.deps, Region.binds, Dag.list, Dag.Is, List.getD_cons_zero, List.getD_cons_succ, and_true, forall_const, Nat.reduceAdd, Region.wanted, reduceIte]
      refine ⟨?_, ?_, ?_, ?_, ?_, ?_, ?_, ?_, ?_, ?_, ?_, ?_, ?_, ?_, ?_, ?_, ?_, ?_, ?_, ?_, ?_, ?_, ?_, ?_, ?_, ?_⟩
      · (try intro hd); go_simp; (first | done | exact ⟨Below.refl _ _, rfl⟩ | exact Below.refl _ _)
      · (try intro hd); go_simp; refine Calls.mono (number_any _ _ c l W (hr1.on hbW) (by omega) hn) ?_; rintro e w' ⟨rfl, q, rfl⟩; exact ⟨by rw [X0.out], below_drewN _ _⟩
      · (try intro hd); go_simp; (first | done | exact ⟨Below.refl _ _, rfl⟩ | exact Below.refl _ _)
      · (try intro hd); go_simp; exact ⟨Below.refl _ _, _, _, _, rfl, by omega, (hr1.on hbW).drop (k := 4) (by omega) hc⟩
      · (try intro hd); obtain ⟨⟨A', n', c', hv, hc', hr⟩, _⟩ := hd; have hl' := hr.len; rw [List.length_drop, HL.out] at hl'; go_simp; refine Calls.mono (number_any A' _ c' _ W hr (by omega) (by omega)) ?_; rintro e w' ⟨rfl, q, rfl⟩; exact ⟨by rw [X1.out], below_drewN _ _⟩
      · (try intro hd); go_simp; (first | done | exact ⟨Below.refl _ _, rfl⟩ | exact Below.refl _ _)
      · (try intro hd); go_simp; (first | done | exact ⟨Below.refl _ _, rfl⟩ | exact Below.refl _ _)
      · (try intro hd); go_simp; exact ⟨Below.refl _ _, _, _, _, rfl, by omega, (hr1.on hbW).drop (k := 8) (by omega) hc⟩
      · (try intro hd); obtain ⟨⟨A', n', c', hv, hc', hr⟩, _⟩ := hd; have hl' := hr.len; rw [List.length_drop, HL.out] at hl'; go_simp; refine Calls.mono (number_any A' _ c' _ W hr (by omega) (by omega)) ?_; rintro e w' ⟨rfl, q, rfl⟩; exact ⟨by rw [X2.out], below_drewN _ _⟩
      · (try intro hd); have := c2; go_simp; (first | done | exact ⟨Below.refl _ _, rfl⟩ | exact Below.refl _ _)
      · (try intro hd); have := s2; go_simp; (first | done | exact ⟨Below.refl _ _, rfl⟩ | exact Below.refl _ _)
      · (try intro hd); go_simp; (first | done | exact ⟨Below.refl _ _, rfl⟩ | exact Below.refl _ _)
      · (try intro hd); go_simp; exact ⟨Below.refl _ _, _, _, _, rfl, by omega, (hr1.on hbW).drop (k := 12) (by omega) hc⟩
      · (try intro hd); obtain ⟨⟨A', n', c', hv, hc', hr⟩, _⟩ := hd; have hl' := hr.len; rw [List.length_drop, HL.out] at hl'; go_simp; refine Calls.mono (number_any A' _ c' _ W hr (by omega) (by omega)) ?_; rintro e w' ⟨rfl, q, rfl⟩; exact ⟨by rw [X3.out], below_drewN _ _⟩
      · (try intro hd); have := c3; go_simp; (first | done | exact ⟨Below.refl _ _, rfl⟩ | exact Below.refl _ _)
      · (try intro hd); have := s3; go_simp; (first | done | exact ⟨Below.refl _ _, rfl⟩ | exact Below.refl _ _)
      · (try intro hd); go_simp; (first | done | exact ⟨Below.refl _ _, rfl⟩ | exact Below.refl _ _)
      · (try intro hd); go_simp; (first | done | exact ⟨Below.refl _ _, rfl⟩ | exact Below.refl _ _)
      · (try intro hd); have hz := keep_cell hbW hc16; go_simp; (first | done | exact ⟨Below.refl _ _, rfl⟩ | exact Below.refl _ _)
      · (try intro hd); have := hzd; go_simp; (first | done | exact ⟨Below.refl _ _, rfl⟩ | exact Below.refl _ _)
      · (try intro hd); go_simp; (first | done | exact ⟨Below.refl _ _, rfl⟩ | exact Below.refl _ _)
      · (try intro hd); go_simp; exact ⟨Below.refl _ _, _, _, _, rfl, by omega, (hr1.on hbW).drop (k := 17) (by omega) hc⟩
      · (try intro hd); obtain ⟨⟨A', n', c', hv, hc', hr⟩, _⟩ := hd; have hl' := hr.len; rw [List.length_drop, HL.out] at hl'; go_simp; refine Calls.mono (number_any A' _ c' _ W hr (by omega) (by omega)) ?_; rintro e w' ⟨rfl, q, rfl⟩; exact ⟨by rw [X4.out], below_drewN _ _⟩
      · (try intro hd); have := c4; go_simp; (first | done | exact ⟨Below.refl _ _, rfl⟩ | exact Below.refl _ _)
      · (try intro hd); go_simp; (first | done | exact ⟨Below.refl _ _, rfl⟩ | exact Below.refl _ _)
      · (try intro hd); go_simp; exact ⟨below_alloc _ _, W.heap.size, rfl, by have := hbW.size; simpa using this, by simp, heap_alloc_last _ _⟩
    · intro vs W hbW hk
      simp only [Dag.known, Dag.list, Dag.Is, List.getD_cons_zero, List.getD_cons_succ, and_true] at hk
      obtain ⟨k0, k1, k2, k3, k4, k5, k6, k7, k8, k9, k10, k11, k12, k13, k14, k15, k16, k17, k18, k19, k20, k21, k22, k23, k24, k25⟩ := hk
      simp only [List.take_succ_cons, List.take_zero, List.drop_succ_cons, List.drop_zero, Dag.fill, Act.put, List.setIfInBounds_toArray, List.set_cons_succ, List.set_cons_zero, Nat.reduceAdd, k0, k1, k2, k4, k5, k6, k8, k9, k10, k11, k13, k14, k15, k16, k17, k18, k19, k20, k22, k23, k24]
      clear k0 k1 k2 k4 k5 k6 k8 k9 k10 k11 k13 k14 k15 k16 k17 k18 k19 k20 k22 k23 k24
      obtain ⟨k, hv25, hkb, hkl, hk⟩ := k25
      rw [hv25]
      refine wpList_store_row rfl 36 _ _ rfl k #[.int .u32 (x0 : Int), .int .u32 (x1 : Int), .int .u64 (y : Int), .bool d, .int .i64 (x4 : Int)] rfl rfl 36 _ hk (by kernel_rfl) rfl (by simp [Value.oneCell']) ?_
      have hK := setRow_heap W k _ #[.int .u32 (x0 : Int), .int .u32 (x1 : Int), .int .u64 (y : Int), .bool d, .int .i64 (x4 : Int)] _ _ hk
      have hZ : (W.setRow k #[.int .u32 (x0 : Int), .int .u32 (x1 : Int), .int .u64 (y : Int), .bool d, .int .i64 (x4 : Int)]).heap[w.heap.size]? = some (.cells #[.int .u32 0, .int .u32 0, .int .u64 0, .bool false, .int .i64 0] 36 (0, 0)) :=
        (setRow_other W k _ _ (by omega)).trans ((hbW.block w.heap.size (by simp)).trans (heap_alloc_last w _))
      have hV : Below w.heap.size w (W.setRow k #[.int .u32 (x0 : Int), .int .u32 (x1 : Int), .int .u64 (y : Int), .bool d, .int .i64 (x4 : Int)]) := below_setRow ((below_alloc w _).trans (hbW.mono (by simp))) (by omega) _
      have hsz : k < (W.setRow k #[.int .u32 (x0 : Int), .int .u32 (x1 : Int), .int .u64 (y : Int), .bool d, .int .i64 (x4 : Int)]).heap.size := by rw [size_setRow]; exact hkl
      generalize W.setRow k #[.int .u32 (x0 : Int), .int .u32 (x1 : Int), .int .u64 (y : Int), .bool d, .int .i64 (x4 : Int)] = V at *
      have c0 := cell_of_row _ _ 0 _ _ _ hK
      have c1 := cell_of_row _ _ 1 _ _ _ hK
      have c2' := cell_of_row _ _ 2 _ _ _ hK
      have c3' := cell_of_row _ _ 3 _ _ _ hK
      have c4' := cell_of_row _ _ 4 _ _ _ hK
      have HK := hide hK
      have HZ := hide hZ
      have HV := hide hV
      have HB := hide (And.intro hkb hsz)
      clear hK hZ hV hkb hsz hk hkl hr1 hc16 hbW hv25
      have hin : (Value.agg #[.int .u32 (x0 : Int), .int .u32 (x1 : Int), .int .u64 (y : Int), .bool d, .int .i64 (x4 : Int)]) = .agg (decInf l).cells := by rw [HI.out]; rfl
      have HIN := hide hin
      clear hin
      go_wp2_with fail
      refine Calls.mono (by rw [HIN.out]; exact encode_any _ HOK.out V) ?_
      rintro e w3 ⟨hb3, he⟩
      have h30 := (hb3.block w.heap.size (by have := HB.out; omega)).trans HZ.out
      have h31 := (hb3.block k HB.out.2).trans HK.out
      have hv3 := below_then HV.out hb3
      have H30 := hide h30
      have H31 := hide h31
      have HV3 := hide hv3
      have c0 := cell_of_row _ _ 0 _ _ _ h30
      have c1 := cell_of_row _ _ 1 _ _ _ h30
      have c2' := cell_of_row _ _ 2 _ _ _ h30
      have c3' := cell_of_row _ _ 3 _ _ _ h30
      have c4' := cell_of_row _ _ 4 _ _ _ h30
      have f0 := frozen_of_row _ _ 0 _ _ h30
      have f1 := frozen_of_row _ _ 1 _ _ h30
      have f2 := frozen_of_row _ _ 2 _ _ h30
      have f3 := frozen_of_row _ _ 3 _ _ h30
      have f4 := frozen_of_row _ _ 4 _ _ h30
      have d0 := cell_of_row _ _ 0 _ _ _ h31
      have d1 := cell_of_row _ _ 1 _ _ _ h31
      have d2 := cell_of_row _ _ 2 _ _ _ h31
      have d3 := cell_of_row _ _ 3 _ _ _ h31
      have d4 := cell_of_row _ _ 4 _ _ _ h31
      clear hb3 h30 h31 hv3 HZ HK HV
      cases hb : mayB (decInf l) with
      | false =>
        rw [if_neg (by rw [hb]; simp)] at he
        subst he
        have HF := hide (show decoded l = (⟨0, 0, 0, false, 0⟩, 292) by rw [HD.out, if_neg (by rw [hb]; simp)])
        clear hb
        go_wp2_with fail
        have q1 := (heap_set _ w.heap.size 4 _ _ _ (.int .i64 0) (heap_set _ w.heap.size 3 _ _ _ (.bool false) (heap_set _ w.heap.size 2 _ _ _ (.int .u64 0) (heap_set _ w.heap.size 1 _ _ _ (.int .u32 0) (heap_set _ w.heap.size 0 _ _ _ (.int .u32 0) H30.out)))))
        have r0 := cell_of_row _ _ 0 _ _ _ q1
        have r1 := cell_of_row _ _ 1 _ _ _ q1
        have r2 := cell_of_row _ _ 2 _ _ _ q1
        have r3 := cell_of_row _ _ 3 _ _ _ q1
        have r4 := cell_of_row _ _ 4 _ _ _ q1
        have q3 := hide (((((HV3.out.setCell (p := ⟨w.heap.size, 0, none⟩) (Nat.le_refl _) (.int .u32 0)).setCell (p := ⟨w.heap.size, 1, none⟩) (Nat.le_refl _) (.int .u32 0)).setCell (p := ⟨w.heap.size, 2, none⟩) (Nat.le_refl _) (.int .u64 0)).setCell (p := ⟨w.heap.size, 3, none⟩) (Nat.le_refl _) (.bool false)).setCell (p := ⟨w.heap.size, 4, none⟩) (Nat.le_refl _) (.int .i64 0))
        generalize (((((w3.setCell ⟨w.heap.size, 0, none⟩ (.int .u32 0)).setCell ⟨w.heap.size, 1, none⟩ (.int .u32 0)).setCell ⟨w.heap.size, 2, none⟩ (.int .u64 0)).setCell ⟨w.heap.size, 3, none⟩ (.bool false)).setCell ⟨w.heap.size, 4, none⟩ (.int .i64 0)) = V9 at *
        exact bodyPost_ret (v := .tuple #[.agg #[.int .u32 0, .int .u32 0, .int .u64 0, .bool false, .int .i64 0], .int .i64 292]) (by simp [results, Tryd.results10, go_sem, r0, r1, r2, r3, r4]) rfl ⟨q3.out, by rw [HF.out]; rfl⟩
      | true =>
        rw [if_pos hb] at he
        obtain ⟨A, c5, rfl, hc5, hm5, hr5⟩ := he
        have hs5 := run_str (P := Tryd.prog) w3 37 9 5 A 21 c5 _ hr5 (by kernel_rfl) (by kernel_rfl) (by kernel_rfl)
        have hs6 := run_str (P := Tryd.prog) w3 37 9 5 (some ⟨b, o, none⟩) n c _ (HA.out.on HV3.out) (by kernel_rfl) (by kernel_rfl) (by kernel_rfl)
        by_cases hrt : infBytes (decInf l) = l
        · have HF := hide (show decoded l = (decInf l, 0) by rw [HD.out, if_pos ⟨hb, hrt⟩])
          have ht : ((str (infBytes (decInf l))).toList == (str l).toList) = true := by rw [hrt]; simp
          clear hb hrt
          go_wp2_with fail
          have q1 := (heap_set _ w.heap.size 4 _ _ _ (.int .i64 (x4 : Int)) (heap_set _ w.heap.size 3 _ _ _ (.bool d) (heap_set _ w.heap.size 2 _ _ _ (.int .u64 (y : Int)) (heap_set _ w.heap.size 1 _ _ _ (.int .u32 (x1 : Int)) (heap_set _ w.heap.size 0 _ _ _ (.int .u32 (x0 : Int)) H30.out)))))
          have r0 := cell_of_row _ _ 0 _ _ _ q1
          have r1 := cell_of_row _ _ 1 _ _ _ q1
          have r2 := cell_of_row _ _ 2 _ _ _ q1
          have r3 := cell_of_row _ _ 3 _ _ _ q1
          have r4 := cell_of_row _ _ 4 _ _ _ q1
          have q3 := hide (((((HV3.out.setCell (p := ⟨w.heap.size, 0, none⟩) (Nat.le_refl _) (.int .u32 (x0 : Int))).setCell (p := ⟨w.heap.size, 1, none⟩) (Nat.le_refl _) (.int .u32 (x1 : Int))).setCell (p := ⟨w.heap.size, 2, none⟩) (Nat.le_refl _) (.int .u64 (y : Int))).setCell (p := ⟨w.heap.size, 3, none⟩) (Nat.le_refl _) (.bool d)).setCell (p := ⟨w.heap.size, 4, none⟩) (Nat.le_refl _) (.int .i64 (x4 : Int)))
          generalize (((((w3.setCell ⟨w.heap.size, 0, none⟩ (.int .u32 (x0 : Int))).setCell ⟨w.heap.size, 1, none⟩ (.int .u32 (x1 : Int))).setCell ⟨w.heap.size, 2, none⟩ (.int .u64 (y : Int))).setCell ⟨w.heap.size, 3, none⟩ (.bool d)).setCell ⟨w.heap.size, 4, none⟩ (.int .i64 (x4 : Int))) = V9 at *
          exact bodyPost_ret (v := .tuple #[.agg #[.int .u32 (x0 : Int), .int .u32 (x1 : Int), .int .u64 (y : Int), .bool d, .int .i64 (x4 : Int)], .int .i64 0]) (by simp [results, Tryd.results10, go_sem, r0, r1, r2, r3, r4]) rfl ⟨q3.out, by rw [HF.out, HI.out]; rfl⟩
        · have HF := hide (show decoded l = (⟨0, 0, 0, false, 0⟩, 292) by rw [HD.out, if_neg (fun h => hrt h.2)])
          have ht : ((str (infBytes (decInf l))).toList == (str l).toList) = false := by
            rw [beq_eq_false_iff_ne, str_toList, str_toList]
            intro h
            exact hrt h
          clear hb hrt
          go_wp2_with fail
          have q1 := (heap_set _ w.heap.size 4 _ _ _ (.int .i64 0) (heap_set _ w.heap.size 3 _ _ _ (.bool false) (heap_set _ w.heap.size 2 _ _ _ (.int .u64 0) (heap_set _ w.heap.size 1 _ _ _ (.int .u32 0) (heap_set _ w.heap.size 0 _ _ _ (.int .u32 0) H30.out)))))
          have r0 := cell_of_row _ _ 0 _ _ _ q1
          have r1 := cell_of_row _ _ 1 _ _ _ q1
          have r2 := cell_of_row _ _ 2 _ _ _ q1
          have r3 := cell_of_row _ _ 3 _ _ _ q1
          have r4 := cell_of_row _ _ 4 _ _ _ q1
          have q3 := hide (((((HV3.out.setCell (p := ⟨w.heap.size, 0, none⟩) (Nat.le_refl _) (.int .u32 0)).setCell (p := ⟨w.heap.size, 1, none⟩) (Nat.le_refl _) (.int .u32 0)).setCell (p := ⟨w.heap.size, 2, none⟩) (Nat.le_refl _) (.int .u64 0)).setCell (p := ⟨w.heap.size, 3, none⟩) (Nat.le_refl _) (.bool false)).setCell (p := ⟨w.heap.size, 4, none⟩) (Nat.le_refl _) (.int .i64 0))
          generalize (((((w3.setCell ⟨w.heap.size, 0, none⟩ (.int .u32 0)).setCell ⟨w.heap.size, 1, none⟩ (.int .u32 0)).setCell ⟨w.heap.size, 2, none⟩ (.int .u64 0)).setCell ⟨w.heap.size, 3, none⟩ (.bool false)).setCell ⟨w.heap.size, 4, none⟩ (.int .i64 0)) = V9 at *
          exact bodyPost_ret (v := .tuple #[.agg #[.int .u32 0, .int .u32 0, .int .u64 0, .bool false, .int .i64 0], .int .i64 292]) (by simp [results, Tryd.results10, go_sem, r0, r1, r2, r3, r4]) rfl ⟨q3.out, by rw [HF.out]; rfl⟩
end Go.Proofs.YtmkkbomkonociaaDoor
