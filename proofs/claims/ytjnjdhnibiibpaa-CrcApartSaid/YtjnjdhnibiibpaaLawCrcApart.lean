/- Proved: davenportlaw09.CrcApart returns true for every input: sequences that differ only within four consecutive bytes have different checksums. No condition. -/
import Derived.Test.YtjnjdhnibiibpaaRows
import Derived.Test.YtjnjdhnibiibpaaOpen
import Derived.Test.YtjnjdhnibiibpaaCrcWakes
namespace Go.Proofs.Ytjnjdhnibiibpaa.LawCrcApart
open Go.ChangeShapes Go.WideShapes Go.ChangeAt Go.RowKit
open Go.ChangeMaps (open_string shut_string)
attribute [local go_sem] Dag.gives

theorem take_three {α : Type} (A X D : List α) (a x n : Nat) (ha : A.length = a) (hx : X.length = x) (h : a + x ≤ n) : (A ++ (X ++ D)).take n = A ++ (X ++ D.take (n - a - x)) := by
  subst ha
  subst hx
  rw [List.take_append, List.take_of_length_le (l := A) (by omega), List.take_append, List.take_of_length_le (l := X) (by omega)]
/-- four bytes laid over others -/
def over4 (b x : List UInt8) (k : Nat) : List UInt8 := b.take k ++ (x ++ b.drop (k + 4))
theorem apart (b x : List UInt8) (k : Nat) (hx : x.length = 4) (hk : k + 4 ≤ b.length) : decide (Crc.more 0 (nums b) = Crc.more 0 (nums (over4 b x k))) = decide (b = over4 b x k) := by
  have e : b = b.take k ++ ((b.drop k).take 4 ++ b.drop (k + 4)) := by
    rw [← List.drop_drop, List.take_append_drop, List.take_append_drop]
  apply decide_eq_decide.2
  constructor
  · intro h
    unfold over4 at h ⊢
    rw [e] at h
    have hl : (b.take k).length = k := by rw [List.length_take]; omega
    rw [← e] at h
    have h' : Crc.more 0 (nums (b.take k ++ ((b.drop k).take 4 ++ b.drop (k + 4)))) = Crc.more 0 (nums (b.take k ++ (x ++ b.drop (k + 4)))) := by rw [← e]; exact h
    rw [nums_append, nums_append, nums_append, nums_append] at h'
    have := Crc.apart _ _ _ _ (nums_lt _) (nums_lt _) (nums_lt _) (nums_lt _) (by rw [nums_len, List.length_take, List.length_drop]; omega) (by rw [nums_len, hx]) h'
    rw [← nums_inj this]
    exact e
  · intro h
    rw [← h]

theorem walk (A : Option Addr) (n c : Nat) (l : List UInt8) (at_ : Int) (x0 x1 x2 x3 : UInt8) (w : World) (h1 : Arg w A n c l) (w1 : (Lit.int .i64 at_).wf = true) :
    Calls Try.prog 7 #[.slice A n c, .int .i64 at_, .agg #[.int .u8 x0.toNat, .int .u8 x1.toNat, .int .u8 x2.toNat, .int .u8 x3.toNat]] w fun e w' => e = .returned (.bool true) ∧ Below w.heap.size w w' := by
  obtain ⟨hr, hc, hm⟩ := h1
  have hat := hide (wf_i64 w1)
  clear w1
  go_enter Try.func7, Try.ntmps7
  go_wp2_with fail
  refine Calls.mono (wakes_any _) ?_
  rintro e w1 ⟨rfl, hb1⟩
  have hb1' := below_then (below_alloc w _) hb1
  have hr1 := hr.on hb1'
  have hbox : w1.heap[w.heap.size]? = some (.cells (bytes [x0, x1, x2, x3]).toArray 34 (0, 0)) := (hb1.block _ (by simp)).trans (heap_alloc_new w _)
  go_wp2_with fail
  refine Calls.mono (few_rb _ _ _ _ _ hr1 hc hm) ?_
  rintro e w2 ⟨B, n2, c2, rfl, hr2, hn2, hc2, hm2, hb2⟩
  have hb2' := below_then hb1' hb2
  have hw1 := (Array.getElem?_eq_some_iff.1 hbox).1
  have hbox2 := (hb2.block _ hw1).trans hbox
  have hw2 := (Array.getElem?_eq_some_iff.1 hbox2).1
  generalize l.take FEW = q at *
  have HQ := hide hr2.len
  have HBOX := hide hbox2
  clear hbox hbox2 hr1 hb1 hb2 hr hb1'
  by_cases h4 : n2 < 4
  · go_wp2_with fail
    refine Calls.mono (sum_any _ _ _ _ _ hr2 (by omega)) ?_
    rintro e w3 ⟨rfl, hb3⟩
    go_wp2_with fail
    refine Calls.mono (more_any _ _ _ _ _ _ (by omega) (by omega) (hr2.on hb3) (by omega)) ?_
    rintro e w4 ⟨rfl, hb4⟩
    rw [show (0 : Int).toNat = 0 from rfl]
    go_wp2
    go_ret
    exact ⟨by simp, below_then (below_then hb2' hb3) hb4⟩
  · go_wp2_with fail
    refine Calls.mono (clone_any _ _ _ _ _ hr2 (by omega)) ?_
    rintro e w3 ⟨v, rfl, ho, hb3⟩
    have hb3' := below_then hb2' hb3
    have hr3 := hr2.on hb3
    rcases ho.2 with ⟨_, h0⟩ | ⟨g, cap, cur, rfl, hg, hheap, hncap, hcapm, hcur, htake⟩
    · omega
    rw [Nat.mul_one] at htake hcur
    obtain ⟨u, hu⟩ : ∃ u : Int, IntKind.u64.wrap at_ = u := ⟨_, rfl⟩
    have hu0 : 0 ≤ u := by rw [← hu]; exact wrap_u64_nonneg _
    obtain ⟨k, hk⟩ := Int.eq_ofNat_of_zero_le (Int.emod_nonneg u (show (n2 : Int) - 3 ≠ 0 by omega))
    have hklt : u % ((n2 : Int) - 3) < (n2 : Int) - 3 := Int.emod_lt_of_pos _ (by omega)
    have hkn : k + 4 ≤ n2 := by omega
    have htm : u.tmod ((n2 : Int) - 3) = (k : Int) := by rw [Int.tmod_eq_emod_of_nonneg hu0, hk]
    have hne : ¬ (n2 : Int) - 3 = 0 := by omega
    have e1 : IntKind.i64.wrap ((n2 : Int) - 3) = (n2 : Int) - 3 := by rw [IntKind.wrap_i64]; omega
    have e2 : IntKind.u64.wrap ((n2 : Int) - 3) = (n2 : Int) - 3 := by rw [IntKind.wrap_u64]; omega
    have e3 : IntKind.i64.wrap (k : Int) = (k : Int) := by rw [IntKind.wrap_i64]; omega
    have hkle : k ≤ n2 := by omega
    have hck : ¬ cap = k := by omega
    have HCUR := hide hcur
    have HHEAP := hide hheap
    have HTAKE := hide htake
    have HAP := hide (apart q [x0, x1, x2, x3] k rfl (by rw [HQ.out]; exact hkn))
    have hr2' := hide hr2
    clear hk hklt hcur hheap htake ho hr3 hr2
    go_wp2_with fail
    refine Dag.wp_region_facts 11 (Dag.list [Dag.Is (.slice (some ⟨g, 0, none⟩) n2 cap), Dag.Is (.int .i64 at_), Dag.Is (.int .u64 u), Dag.Is (.slice B n2 c2), Dag.Is (.int .i64 n2), Dag.Is (.int .i64 ((n2 : Int) - 3)), Dag.Is (.int .u64 ((n2 : Int) - 3)), Dag.Is (.int .u64 (k : Int)), Dag.Is (.int .i64 (k : Int)), Dag.Is (.slice (some ⟨g, k, none⟩) (n2 - k) (cap - k)), Dag.Is (.slice (some ⟨w.heap.size, 0, none⟩) 4 4)]) (by kernel_rfl) (by kernel_rfl) (Dag.stable_list (by simp [Dag.Stable.is])) ?_ ?_
    · intro vs W hbW
      simp only [Dag.allOps, List.take_succ_cons, List.take_zero, Dag.fill, Act.put, List.setIfInBounds_toArray, List.set_cons_succ, List.set_cons_zero, Dag.deps, Region.binds, Dag.list, Dag.Is, List.getD_cons_zero, List.getD_cons_succ, and_true, forall_const, Nat.reduceAdd, Region.wanted, reduceIte]
      refine ⟨?_, ?_, ?_, ?_, ?_, ?_, ?_, ?_, ?_, ?_, ?_⟩
      · (try intro hd); go_simp; (first | done | exact ⟨Below.refl _ _, rfl⟩ | exact Below.refl _ _)
      · (try intro hd); go_simp; (first | done | exact ⟨Below.refl _ _, rfl⟩ | exact Below.refl _ _)
      · (try intro hd); go_simp; (first | done | exact ⟨Below.refl _ _, rfl⟩ | exact Below.refl _ _)
      · (try intro hd); go_simp; (first | done | exact ⟨Below.refl _ _, rfl⟩ | exact Below.refl _ _)
      · (try intro hd); go_simp; (first | done | exact ⟨Below.refl _ _, rfl⟩ | exact Below.refl _ _)
      · (try intro hd); go_simp; (first | done | exact ⟨Below.refl _ _, rfl⟩ | exact Below.refl _ _)
      · (try intro hd); go_simp; (first | done | exact ⟨Below.refl _ _, rfl⟩ | exact Below.refl _ _)
      · (try intro hd); go_simp; (first | done | exact ⟨Below.refl _ _, rfl⟩ | exact Below.refl _ _)
      · (try intro hd); go_simp; (first | done | exact ⟨Below.refl _ _, rfl⟩ | exact Below.refl _ _)
      · (try intro hd); go_simp; (first | done | exact ⟨Below.refl _ _, rfl⟩ | exact Below.refl _ _)
      · (try intro hd); go_simp; (first | done | exact ⟨Below.refl _ _, rfl⟩ | exact Below.refl _ _)
    · intro vs W hbW hk
      simp only [Dag.known, Dag.list, Dag.Is, List.getD_cons_zero, List.getD_cons_succ, and_true] at hk
      obtain ⟨k0, k1, k2, k3, k4, k5, k6, k7, k8, k9, k10⟩ := hk
      simp only [List.take_succ_cons, List.take_zero, List.drop_succ_cons, List.drop_zero, Dag.fill, Act.put, List.setIfInBounds_toArray, List.set_cons_succ, List.set_cons_zero, Nat.reduceAdd, k0, k1, k2, k3, k4, k5, k6, k7, k8, k9, k10]
      clear k0 k1 k2 k3 k4 k5 k6 k7 k8 k9 k10
      have hgW : g < W.heap.size := Nat.lt_of_lt_of_le (Array.getElem?_eq_some_iff.1 HHEAP.out).1 hbW.size
      have hw2W : w2.heap.size ≤ W.heap.size := Nat.le_trans hb3.size hbW.size
      have hbx : W.heap[w.heap.size]? = some (.cells (bytes [x0, x1, x2, x3]).toArray 34 (0, 0)) := (hbW.block _ (Nat.lt_of_lt_of_le hw2 hb3.size)).trans ((hb3.block _ hw2).trans HBOX.out)
      obtain ⟨W1, hrun, hh1, hbc, hs1⟩ := run_copy_reads (P := Try.prog) W 26 26 3 5 5 Try.underlying26 size_u8 g k (n2 - k) (cap - k) W.heap.size (some ⟨w.heap.size, 0, none⟩) 4 4 (bytes [x0, x1, x2, x3]) cur
        ((hbW.block _ (Array.getElem?_eq_some_iff.1 HHEAP.out).1).trans HHEAP.out) (RB.block hbx rfl) (by omega) (by rw [HCUR.out]; omega) bytes_one
      have hb2W : Below w2.heap.size w2 W1 := (below_then hb3 hbW).trans (hbc.mono hg)
      have hq1 := hide (hr2'.out.on hb2W)
      have hc1 : RB W1 (some ⟨g, 0, none⟩) n2 (over4 q [x0, x1, x2, x3] k) := by
        refine RB.head hh1 ?_ ?_
        · have hl1 : (cur.toList.take k).length = k := by rw [List.length_take, Array.length_toList, HCUR.out]; omega
          have e1 : cur.toList.take k = (bytes q).take k := by rw [← HTAKE.out, List.take_take, Nat.min_eq_left hkle]
          have e2 : (cur.toList.drop (k + 4)).take (n2 - k - 4) = (bytes q).drop (k + 4) := by rw [← HTAKE.out, List.drop_take, show n2 - (k + 4) = n2 - k - 4 by omega]
          show List.take n2 (cur.toList.take k ++ (bytes [x0, x1, x2, x3] ++ cur.toList.drop (k + 4))) = _
          rw [take_three _ _ _ k 4 n2 hl1 (by rw [bytes_len]; rfl) hkn, e1, e2]
          rw [over4, bytes_append, bytes_append, bytes_take, bytes_drop]
        · unfold over4
          have := HQ.out
          simp [List.length_take, List.length_drop]; omega
      have hc1' := hide hc1
      have hbe := hide (hb2'.trans (hb2W.mono hb2'.size))
      clear hc1 hb2W hh1 hbx hbc
      go_wp2_with fail
      refine Calls.mono (sum_any _ _ _ _ _ hq1.out (by omega)) ?_
      rintro e w5 ⟨rfl, hb5⟩
      go_wp2_with fail
      refine Calls.mono (sum_any _ _ _ _ _ (hc1'.out.on hb5) (by omega)) ?_
      rintro e w6 ⟨rfl, hb6⟩
      have hb56 := below_then hb5 hb6
      go_wp2_with fail
      refine Calls.mono (equal_b _ _ _ _ _ _ _ _ _ (hq1.out.on hb56) (hc1'.out.on hb56) (by omega) (by omega)) ?_
      rintro e w7 ⟨rfl, hb7⟩
      go_wp2
      go_ret
      refine ⟨ret_bool ?_, below_then (below_then hbe.out hb56) hb7⟩
      have := HAP.out
      rw [beq_iff_eq, ← this]
      by_cases h : Crc.more 0 (nums q) = Crc.more 0 (nums (over4 q [x0, x1, x2, x3] k))
      · simp [h]
      · have : ¬ ((Crc.more 0 (nums q) : Nat) : Int) = ((Crc.more 0 (nums (over4 q [x0, x1, x2, x3] k)) : Nat) : Int) := by omega
        simp [h, this]

/-! ### the row's step, written by program after the guide's skeleton -/
theorem own : ownKnob Try.prog.godebug = none := by kernel_rfl
theorem laidOut : laidOutB Try.prog = true := by kernel_rfl
set_option maxRecDepth 100000 in
theorem lifted (os : Os) (started : os.Started) (H : Type) (enc : TypeId × Value → H) :
    ReturnsInHanded {} Try.checked os 7 .any (Rows.crcApartSpec.pre6 enc Try.prog Try.f7 Rows.crcApartRow.domain false) (Rows.crcApartSpec.post enc Try.prog Try.f7 false true false false) := by
  refine returnsInHanded_of_change (C := Try.checked) own started (by kernel_rfl) Try.func7
    (ChangeSpec.witness6 (enc := enc) (C := Try.checked) false ⟨#[], #[.slice none 0 0, .int .i64 0, .agg #[.int .u8 0, .int .u8 0, .int .u8 0, .int .u8 0]], []⟩ 8 (by kernel_rfl) (by kernel_rfl) (by kernel_rfl) (by kernel_rfl)) ?_
  intro W base args ds gs before hval0 hW hcnd _
  have hval : ∀ (j : Nat) t v, Try.f7.params[j]? = some t → args[j]? = some v → Value.okWide Try.prog W .any base t v := hval0
  have hW' := hW
  obtain ⟨p, q, hA0, hV, rfl, hfz, hnd⟩ := hW
  have hA : DataW.TrodAll enc Try.prog W 0 (fun _ => true) true Try.f7.params.toList args.toList ds p := hA0
  rw [Try.params7] at hA hval
  obtain ⟨v0, vs0, d0, ds0, p0, q0, hargs, rfl, rfl, h0, r0⟩ := trodAll_cons hA
  obtain ⟨v1, vs1, d1, ds1, p1, q1, rfl, rfl, rfl, h1, r1⟩ := trodAll_cons r0
  obtain ⟨v2, vs2, d2, ds2, p2, q2, rfl, rfl, rfl, h2, r2⟩ := trodAll_cons r1
  obtain ⟨rfl, rfl, rfl⟩ := trodAll_nil r2
  obtain rfl : args = #[v0, v1, v2] := by cases args; simp_all
  obtain ⟨rfl, rfl⟩ := trodVars_none hV
  have k0 := h0
  have lt0 := trod_lt' k0
  obtain ⟨a0, n0, c0, l0, rfl, w0⟩ := arg_bytes Try.underlying26 Try.underlying5 (by kernel_rfl) (hval 0 26 v0 rfl rfl) h0
  obtain ⟨a1, rfl, rfl, rfl, w1⟩ := open_int Try.underlying3 (hval 1 3 v1 rfl rfl) h1
  have k2 := h2
  have lt2 := trod_lt' k2
  obtain ⟨x2a, x2b, x2c, x2d, rfl⟩ := arg_four Try.underlying34 Try.underlying5 (by kernel_rfl) (by kernel_rfl) (hval 2 34 v2 rfl rfl) h2
  clear hA0 hval0
  refine (walk a0 n0 c0 l0 a1 x2a x2b x2c x2d W w0 w1).mono fun e W' ⟨he, bel⟩ => ?_
  subst he
  exact ⟨_, rfl, _, _, _, [], _, [], hW', trodAll_mk1 (shut_bool Try.underlying4 _), (trodAll_cons_mk (Below.trod laidOut (by kernel_rfl) (of_decide_eq_true (by kernel_rfl)) k0 bel lt0) (trodAll_cons_mk (shut_int Try.underlying3 w1) (trodAll_cons_mk (Below.trod laidOut (by kernel_rfl) (of_decide_eq_true (by kernel_rfl)) k2 bel lt2) trodAll_mk0))), rfl, bel.frame _, fun h => by cases h⟩

theorem over : Rows.crcApartRow.holds Try.pinned (OpenSpec.ofChange Rows.crcApartSpec) :=
  OpenClaim.holds_of_wide 7 Try.f7 rfl rfl rfl rfl rfl rfl rfl ⟨rfl, rfl, rfl, rfl, rfl⟩ rfl rfl rfl rfl rfl (by kernel_rfl) Try.func7 (by kernel_rfl)
    (of_decide_eq_true (by kernel_rfl)) (by unfold Func.isWrapper; first | (rw [if_pos (by decide +kernel)]; kernel_rfl) | (rw [if_neg (by decide +kernel)]; exact ⟨rfl, rfl⟩))
    (fun os started H enc _ => lifted os started H enc)

theorem proved : Rows.CrcApartSaid := over
end Go.Proofs.Ytjnjdhnibiibpaa.LawCrcApart
