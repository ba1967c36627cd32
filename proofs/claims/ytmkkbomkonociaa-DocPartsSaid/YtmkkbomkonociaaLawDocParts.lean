/- Proved: davenportlaw19.DocParts returns true for every input: two ids joined by a hyphen form an id if it is not too long, and every nonempty part of an id is an id. No condition. -/
import Derived.Test.YtmkkbomkonociaaRows
import Derived.Test.YtmkkbomkonociaaOpen
import Derived.Test.YtmkkbomkonociaaDocWakes
import Derived.Test.YtmkkbomkonociaaDag
namespace Go.Proofs.Ytmkkbomkonociaa.LawDocParts
open Go.ChangeShapes Go.WideShapes Go.ChangeAt Go.RowKit
open Go.ChangeMaps (open_string shut_string)
attribute [local go_sem] Dag.gives

theorem tmod_nat (t : Int) (m : Nat) (hm : 0 < m) : ∃ k : Nat, k < m ∧ (IntKind.u64.wrap t).tmod m = (k : Int) := by
  have h : 0 ≤ IntKind.u64.wrap t := by unfold IntKind.wrap; simp [IntKind.signed, IntKind.bits]; omega
  refine ⟨((IntKind.u64.wrap t).tmod m).toNat, ?_, ?_⟩
  · rw [Int.tmod_eq_emod_of_nonneg h]
    have h1 := Int.emod_nonneg (IntKind.u64.wrap t) (b := (m : Int)) (by omega)
    have h2 := Int.emod_lt_of_pos (IntKind.u64.wrap t) (b := (m : Int)) (by omega)
    omega
  · rw [Int.tmod_eq_emod_of_nonneg h]
    have h1 := Int.emod_nonneg (IntKind.u64.wrap t) (b := (m : Int)) (by omega)
    omega
/-- the text, cut -/
def sh (s : ByteArray) : ByteArray := if (60 : Int) < s.size then s.extract 0 60 else s
theorem sh_size (s : ByteArray) : (sh s).size ≤ 60 := by
  unfold sh
  split
  · rw [ByteArray.size_extract]; omega
  · omega
theorem sh_cases (s : ByteArray) : ((60 : Int) < s.size ∧ sh s = s.extract 0 60) ∨ ((s.size : Int) ≤ 60 ∧ sh s = s) := by
  unfold sh
  split
  · exact .inl ⟨by assumption, rfl⟩
  · exact .inr ⟨by omega, rfl⟩

theorem id_part (l : List UInt8) (h : isId l = true) (k m : Nat) (hk : k < l.length) (hm : 0 < m) : isId ((l.drop k).take m) = true := by
  unfold isId at *
  simp only [Bool.and_eq_true, decide_eq_true_eq, List.all_eq_true] at *
  obtain ⟨⟨h1, h2⟩, h3⟩ := h
  refine ⟨⟨?_, ?_⟩, fun x hx => h3 x (List.mem_of_mem_drop (List.mem_of_mem_take hx))⟩
  · rw [List.length_take, List.length_drop]; omega
  · rw [List.length_take, List.length_drop]; omega
theorem id_join (a b : List UInt8) (ha : isId a = true) (hb : isId b = true) : isId (a ++ [45] ++ b) = decide (a.length + b.length < 24) := by
  unfold isId at *
  simp only [Bool.and_eq_true, decide_eq_true_eq, List.all_eq_true] at ha hb
  obtain ⟨⟨h1, h2⟩, h3⟩ := ha
  obtain ⟨⟨g1, g2⟩, g3⟩ := hb
  have : (a ++ [45] ++ b).all plainB = true := by
    simp only [List.all_append, Bool.and_eq_true, List.all_eq_true]
    exact ⟨⟨h3, by decide⟩, g3⟩
  rw [this, Bool.and_true, Bool.eq_iff_iff, Bool.and_eq_true, decide_eq_true_eq, decide_eq_true_eq, decide_eq_true_eq]
  simp
  omega

theorem ext_list (s : ByteArray) (a b : Nat) : (s.extract a b).data.toList = (s.data.toList.drop a).take (b - a) := by
  rw [ByteArray.data_extract, Array.toList_extract]
theorem id_pos (s : ByteArray) (h : isId s.data.toList = true) : 0 < s.size := by
  unfold isId at h
  simp only [Bool.and_eq_true, decide_eq_true_eq] at h
  have h1 := h.1.1
  have h2 : s.data.toList.length = s.size := by simp
  omega
theorem err_true {l : List UInt8} (h : isId l = true) : idErr l = 0 := by unfold idErr; rw [if_pos h]
theorem err_false {l : List UInt8} (h : isId l = false) : idErr l = 290 := by unfold idErr; rw [if_neg (by rw [h]; simp)]
theorem join_list (s t : ByteArray) : (s ++ ByteArray.mk #[45] ++ t).data.toList = s.data.toList ++ [45] ++ t.data.toList := by
  simp [ByteArray.data_append]
theorem join_size (s t : ByteArray) (ha : s.size ≤ 60) (hb : t.size ≤ 60) : (s ++ ByteArray.mk #[45] ++ t).size ≤ 1048576 := by
  rw [ByteArray.size_append, ByteArray.size_append]
  have : (ByteArray.mk #[45]).size = 1 := rfl
  omega
set_option maxHeartbeats 4000000 in
theorem walk (s t : ByteArray) (z : Int) (w : World) (w0 : s.size ≤ maxLen) (w1t : t.size ≤ maxLen) (_w2 : (Lit.int .i64 z).wf = true) :
    Calls Try.prog 5 #[.string s, .string t, .int .i64 z] w fun e w' => e = .returned (.bool true) ∧ Below w.heap.size w w' := by
  go_enter Try.func5, Try.ntmps5
  go_wp2_with fail
  refine Calls.mono (wakes_any w) ?_
  rintro e w1 ⟨rfl, hb1⟩
  go_wp2_with fail
  have hs := sh_cases s
  have ht := sh_cases t
  rcases hs with ⟨hs1, hs2⟩ | ⟨hs1, hs2⟩ <;> rcases ht with ⟨ht1, ht2⟩ | ⟨ht1, ht2⟩
  · go_quiet (fail)
    have ha := sh_size s
    have hb := sh_size t
    rw [hs2] at ha
    rw [ht2] at hb
    clear hs1 hs2 ht1 ht2 w0 w1t
    generalize s.extract 0 60 = s at *
    generalize t.extract 0 60 = t at *
    go_wp2_with fail
    refine Calls.mono (check_any s _ (by omega)) ?_
    rintro e w2 ⟨rfl, rfl⟩
    go_wp2_with fail
    refine Calls.mono (check_any t _ (by omega)) ?_
    rintro e w3 ⟨rfl, rfl⟩
    have h2 : (s ++ ByteArray.mk #[45]).size ≤ 61 := by rw [ByteArray.size_append]; have h1 : (ByteArray.mk #[45]).size = 1 := rfl; omega
    have h3 := join_size s t ha hb
    cases hA : isId s.data.toList with
    | false =>
      rw [err_false hA]
      go_wp2_with fail
      refine Calls.mono (check_any _ _ h3) ?_
      rintro e w4 ⟨rfl, rfl⟩
      go_wp2_with fail
      go_ret
      exact ⟨rfl, below_then hb1 (below_drewN _ _)⟩
    | true =>
      have hp := id_pos s hA
      obtain ⟨k, hk, htm⟩ := tmod_nat z s.size hp
      have e2 : IntKind.u64.wrap (s.size : Int) = (s.size : Int) := by rw [IntKind.wrap_u64]; omega
      obtain ⟨u, hu⟩ : ∃ u : Int, IntKind.u64.wrap z = u := ⟨_, rfl⟩
      rw [hu] at htm
      have hne : ¬ (s.size : Int) = 0 := by omega
      have e3 : IntKind.i64.wrap (k : Int) = (k : Int) := by rw [IntKind.wrap_i64]; omega
      have hk0 : (0 : Int) ≤ (k : Int) := by omega
      have hk1 : (k : Int) ≤ (s.size : Int) := by omega
      have HKP := hide (And.intro hk hp)
      have HAA := hide hA
      clear hk hp hA
      rw [err_true HAA.out]
      cases hB : isId t.data.toList with
      | false =>
        rw [err_false hB]
        go_wp2_with fail
        refine Calls.mono (check_any _ _ h3) ?_
        rintro e w4 ⟨rfl, rfl⟩
        go_wp2_with fail
        refine Calls.mono (check_any _ _ (by rw [ByteArray.size_extract]; omega)) ?_
        rintro e w5 ⟨rfl, rfl⟩
        rw [err_true (by rw [ext_list]; exact id_part _ HAA.out k (s.size - k) (by simpa using HKP.out.1) (by have := HKP.out.1; omega))]
        by_cases hkz : k = 0
        · subst hkz
          go_wp2_with fail
          go_ret
          exact ⟨rfl, below_then hb1 (below_drewN _ _)⟩
        · have hkz' : ((k : Int) == 0) = false := by rw [beq_eq_false_iff_ne]; omega
          have HKZ := hide hkz
          clear hkz
          go_wp2_with fail
          refine Calls.mono (check_any _ _ (by rw [ByteArray.size_extract]; omega)) ?_
          rintro e w6 ⟨rfl, rfl⟩
          rw [err_true (by rw [ext_list]; exact id_part _ HAA.out 0 (k - 0) (by have := HKP.out.2; simpa using this) (by have := HKZ.out; omega))]
          go_wp2_with fail
          go_ret
          exact ⟨rfl, below_then hb1 (below_drewN _ _)⟩
      | true =>
        have hj := id_join _ _ HAA.out hB
        rw [err_true hB]
        go_wp2_with fail
        refine Calls.mono (check_any _ _ h3) ?_
        rintro e w4 ⟨rfl, rfl⟩
        rw [join_list] at *
        by_cases h24 : (s.size : Int) + (t.size : Int) < 24
        · rw [err_true (by rw [hj]; simp; omega)]
          go_wp2_with fail
          refine Calls.mono (check_any _ _ (by rw [ByteArray.size_extract]; omega)) ?_
          rintro e w5 ⟨rfl, rfl⟩
          rw [err_true (by rw [ext_list]; exact id_part _ HAA.out k (s.size - k) (by simpa using HKP.out.1) (by have := HKP.out.1; omega))]
          by_cases hkz : k = 0
          · subst hkz
            go_wp2_with fail
            go_ret
            exact ⟨rfl, below_then hb1 (below_drewN _ _)⟩
          · have hkz' : ((k : Int) == 0) = false := by rw [beq_eq_false_iff_ne]; omega
            have HKZ := hide hkz
            clear hkz
            go_wp2_with fail
            refine Calls.mono (check_any _ _ (by rw [ByteArray.size_extract]; omega)) ?_
            rintro e w6 ⟨rfl, rfl⟩
            rw [err_true (by rw [ext_list]; exact id_part _ HAA.out 0 (k - 0) (by have := HKP.out.2; simpa using this) (by have := HKZ.out; omega))]
            go_wp2_with fail
            go_ret
            exact ⟨rfl, below_then hb1 (below_drewN _ _)⟩
        · rw [err_false (by rw [hj]; simp; omega)]
          have h24' : (24 : Int) ≤ (s.size : Int) + (t.size : Int) := by omega
          go_wp2_with fail
          refine Calls.mono (check_any _ _ (by rw [ByteArray.size_extract]; omega)) ?_
          rintro e w5 ⟨rfl, rfl⟩
          rw [err_true (by rw [ext_list]; exact id_part _ HAA.out k (s.size - k) (by simpa using HKP.out.1) (by have := HKP.out.1; omega))]
          by_cases hkz : k = 0
          · subst hkz
            go_wp2_with fail
            go_ret
            exact ⟨rfl, below_then hb1 (below_drewN _ _)⟩
          · have hkz' : ((k : Int) == 0) = false := by rw [beq_eq_false_iff_ne]; omega
            have HKZ := hide hkz
            clear hkz
            go_wp2_with fail
            refine Calls.mono (check_any _ _ (by rw [ByteArray.size_extract]; omega)) ?_
            rintro e w6 ⟨rfl, rfl⟩
            rw [err_true (by rw [ext_list]; exact id_part _ HAA.out 0 (k - 0) (by have := HKP.out.2; simpa using this) (by have := HKZ.out; omega))]
            go_wp2_with fail
            go_ret
            exact ⟨rfl, below_then hb1 (below_drewN _ _)⟩
  · go_quiet (fail)
    have ha := sh_size s
    have hb := sh_size t
    rw [hs2] at ha
    rw [ht2] at hb
    clear hs1 hs2 ht1 ht2 w0 w1t
    generalize s.extract 0 60 = s at *
    go_wp2_with fail
    refine Calls.mono (check_any s _ (by omega)) ?_
    rintro e w2 ⟨rfl, rfl⟩
    go_wp2_with fail
    refine Calls.mono (check_any t _ (by omega)) ?_
    rintro e w3 ⟨rfl, rfl⟩
    have h2 : (s ++ ByteArray.mk #[45]).size ≤ 61 := by rw [ByteArray.size_append]; have h1 : (ByteArray.mk #[45]).size = 1 := rfl; omega
    have h3 := join_size s t ha hb
    cases hA : isId s.data.toList with
    | false =>
      rw [err_false hA]
      go_wp2_with fail
      refine Calls.mono (check_any _ _ h3) ?_
      rintro e w4 ⟨rfl, rfl⟩
      go_wp2_with fail
      go_ret
      exact ⟨rfl, below_then hb1 (below_drewN _ _)⟩
    | true =>
      have hp := id_pos s hA
      obtain ⟨k, hk, htm⟩ := tmod_nat z s.size hp
      have e2 : IntKind.u64.wrap (s.size : Int) = (s.size : Int) := by rw [IntKind.wrap_u64]; omega
      obtain ⟨u, hu⟩ : ∃ u : Int, IntKind.u64.wrap z = u := ⟨_, rfl⟩
      rw [hu] at htm
      have hne : ¬ (s.size : Int) = 0 := by omega
      have e3 : IntKind.i64.wrap (k : Int) = (k : Int) := by rw [IntKind.wrap_i64]; omega
      have hk0 : (0 : Int) ≤ (k : Int) := by omega
      have hk1 : (k : Int) ≤ (s.size : Int) := by omega
      have HKP := hide (And.intro hk hp)
      have HAA := hide hA
      clear hk hp hA
      rw [err_true HAA.out]
      cases hB : isId t.data.toList with
      | false =>
        rw [err_false hB]
        go_wp2_with fail
        refine Calls.mono (check_any _ _ h3) ?_
        rintro e w4 ⟨rfl, rfl⟩
        go_wp2_with fail
        refine Calls.mono (check_any _ _ (by rw [ByteArray.size_extract]; omega)) ?_
        rintro e w5 ⟨rfl, rfl⟩
        rw [err_true (by rw [ext_list]; exact id_part _ HAA.out k (s.size - k) (by simpa using HKP.out.1) (by have := HKP.out.1; omega))]
        by_cases hkz : k = 0
        · subst hkz
          go_wp2_with fail
          go_ret
          exact ⟨rfl, below_then hb1 (below_drewN _ _)⟩
        · have hkz' : ((k : Int) == 0) = false := by rw [beq_eq_false_iff_ne]; omega
          have HKZ := hide hkz
          clear hkz
          go_wp2_with fail
          refine Calls.mono (check_any _ _ (by rw [ByteArray.size_extract]; omega)) ?_
          rintro e w6 ⟨rfl, rfl⟩
          rw [err_true (by rw [ext_list]; exact id_part _ HAA.out 0 (k - 0) (by have := HKP.out.2; simpa using this) (by have := HKZ.out; omega))]
          go_wp2_with fail
          go_ret
          exact ⟨rfl, below_then hb1 (below_drewN _ _)⟩
      | true =>
        have hj := id_join _ _ HAA.out hB
        rw [err_true hB]
        go_wp2_with fail
        refine Calls.mono (check_any _ _ h3) ?_
        rintro e w4 ⟨rfl, rfl⟩
        rw [join_list] at *
        by_cases h24 : (s.size : Int) + (t.size : Int) < 24
        · rw [err_true (by rw [hj]; simp; omega)]
          go_wp2_with fail
          refine Calls.mono (check_any _ _ (by rw [ByteArray.size_extract]; omega)) ?_
          rintro e w5 ⟨rfl, rfl⟩
          rw [err_true (by rw [ext_list]; exact id_part _ HAA.out k (s.size - k) (by simpa using HKP.out.1) (by have := HKP.out.1; omega))]
          by_cases hkz : k = 0
          · subst hkz
            go_wp2_with fail
            go_ret
            exact ⟨rfl, below_then hb1 (below_drewN _ _)⟩
          · have hkz' : ((k : Int) == 0) = false := by rw [beq_eq_false_iff_ne]; omega
            have HKZ := hide hkz
            clear hkz
            go_wp2_with fail
            refine Calls.mono (check_any _ _ (by rw [ByteArray.size_extract]; omega)) ?_
            rintro e w6 ⟨rfl, rfl⟩
            rw [err_true (by rw [ext_list]; exact id_part _ HAA.out 0 (k - 0) (by have := HKP.out.2; simpa using this) (by have := HKZ.out; omega))]
            go_wp2_with fail
            go_ret
            exact ⟨rfl, below_then hb1 (below_drewN _ _)⟩
        · rw [err_false (by rw [hj]; simp; omega)]
          have h24' : (24 : Int) ≤ (s.size : Int) + (t.size : Int) := by omega
          go_wp2_with fail
          refine Calls.mono (check_any _ _ (by rw [ByteArray.size_extract]; omega)) ?_
          rintro e w5 ⟨rfl, rfl⟩
          rw [err_true (by rw [ext_list]; exact id_part _ HAA.out k (s.size - k) (by simpa using HKP.out.1) (by have := HKP.out.1; omega))]
          by_cases hkz : k = 0
          · subst hkz
            go_wp2_with fail
            go_ret
            exact ⟨rfl, below_then hb1 (below_drewN _ _)⟩
          · have hkz' : ((k : Int) == 0) = false := by rw [beq_eq_false_iff_ne]; omega
            have HKZ := hide hkz
            clear hkz
            go_wp2_with fail
            refine Calls.mono (check_any _ _ (by rw [ByteArray.size_extract]; omega)) ?_
            rintro e w6 ⟨rfl, rfl⟩
            rw [err_true (by rw [ext_list]; exact id_part _ HAA.out 0 (k - 0) (by have := HKP.out.2; simpa using this) (by have := HKZ.out; omega))]
            go_wp2_with fail
            go_ret
            exact ⟨rfl, below_then hb1 (below_drewN _ _)⟩
  · go_quiet (fail)
    have ha := sh_size s
    have hb := sh_size t
    rw [hs2] at ha
    rw [ht2] at hb
    clear hs1 hs2 ht1 ht2 w0 w1t
    generalize t.extract 0 60 = t at *
    go_wp2_with fail
    refine Calls.mono (check_any s _ (by omega)) ?_
    rintro e w2 ⟨rfl, rfl⟩
    go_wp2_with fail
    refine Calls.mono (check_any t _ (by omega)) ?_
    rintro e w3 ⟨rfl, rfl⟩
    have h2 : (s ++ ByteArray.mk #[45]).size ≤ 61 := by rw [ByteArray.size_append]; have h1 : (ByteArray.mk #[45]).size = 1 := rfl; omega
    have h3 := join_size s t ha hb
    cases hA : isId s.data.toList with
    | false =>
      rw [err_false hA]
      go_wp2_with fail
      refine Calls.mono (check_any _ _ h3) ?_
      rintro e w4 ⟨rfl, rfl⟩
      go_wp2_with fail
      go_ret
      exact ⟨rfl, below_then hb1 (below_drewN _ _)⟩
    | true =>
      have hp := id_pos s hA
      obtain ⟨k, hk, htm⟩ := tmod_nat z s.size hp
      have e2 : IntKind.u64.wrap (s.size : Int) = (s.size : Int) := by rw [IntKind.wrap_u64]; omega
      obtain ⟨u, hu⟩ : ∃ u : Int, IntKind.u64.wrap z = u := ⟨_, rfl⟩
      rw [hu] at htm
      have hne : ¬ (s.size : Int) = 0 := by omega
      have e3 : IntKind.i64.wrap (k : Int) = (k : Int) := by rw [IntKind.wrap_i64]; omega
      have hk0 : (0 : Int) ≤ (k : Int) := by omega
      have hk1 : (k : Int) ≤ (s.size : Int) := by omega
      have HKP := hide (And.intro hk hp)
      have HAA := hide hA
      clear hk hp hA
      rw [err_true HAA.out]
      cases hB : isId t.data.toList with
      | false =>
        rw [err_false hB]
        go_wp2_with fail
        refine Calls.mono (check_any _ _ h3) ?_
        rintro e w4 ⟨rfl, rfl⟩
        go_wp2_with fail
        refine Calls.mono (check_any _ _ (by rw [ByteArray.size_extract]; omega)) ?_
        rintro e w5 ⟨rfl, rfl⟩
        rw [err_true (by rw [ext_list]; exact id_part _ HAA.out k (s.size - k) (by simpa using HKP.out.1) (by have := HKP.out.1; omega))]
        by_cases hkz : k = 0
        · subst hkz
          go_wp2_with fail
          go_ret
          exact ⟨rfl, below_then hb1 (below_drewN _ _)⟩
        · have hkz' : ((k : Int) == 0) = false := by rw [beq_eq_false_iff_ne]; omega
          have HKZ := hide hkz
          clear hkz
          go_wp2_with fail
          refine Calls.mono (check_any _ _ (by rw [ByteArray.size_extract]; omega)) ?_
          rintro e w6 ⟨rfl, rfl⟩
          rw [err_true (by rw [ext_list]; exact id_part _ HAA.out 0 (k - 0) (by have := HKP.out.2; simpa using this) (by have := HKZ.out; omega))]
          go_wp2_with fail
          go_ret
          exact ⟨rfl, below_then hb1 (below_drewN _ _)⟩
      | true =>
        have hj := id_join _ _ HAA.out hB
        rw [err_true hB]
        go_wp2_with fail
        refine Calls.mono (check_any _ _ h3) ?_
        rintro e w4 ⟨rfl, rfl⟩
        rw [join_list] at *
        by_cases h24 : (s.size : Int) + (t.size : Int) < 24
        · rw [err_true (by rw [hj]; simp; omega)]
          go_wp2_with fail
          refine Calls.mono (check_any _ _ (by rw [ByteArray.size_extract]; omega)) ?_
          rintro e w5 ⟨rfl, rfl⟩
          rw [err_true (by rw [ext_list]; exact id_part _ HAA.out k (s.size - k) (by simpa using HKP.out.1) (by have := HKP.out.1; omega))]
          by_cases hkz : k = 0
          · subst hkz
            go_wp2_with fail
            go_ret
            exact ⟨rfl, below_then hb1 (below_drewN _ _)⟩
          · have hkz' : ((k : Int) == 0) = false := by rw [beq_eq_false_iff_ne]; omega
            have HKZ := hide hkz
            clear hkz
            go_wp2_with fail
            refine Calls.mono (check_any _ _ (by rw [ByteArray.size_extract]; omega)) ?_
            rintro e w6 ⟨rfl, rfl⟩
            rw [err_true (by rw [ext_list]; exact id_part _ HAA.out 0 (k - 0) (by have := HKP.out.2; simpa using this) (by have := HKZ.out; omega))]
            go_wp2_with fail
            go_ret
            exact ⟨rfl, below_then hb1 (below_drewN _ _)⟩
        · rw [err_false (by rw [hj]; simp; omega)]
          have h24' : (24 : Int) ≤ (s.size : Int) + (t.size : Int) := by omega
          go_wp2_with fail
          refine Calls.mono (check_any _ _ (by rw [ByteArray.size_extract]; omega)) ?_
          rintro e w5 ⟨rfl, rfl⟩
          rw [err_true (by rw [ext_list]; exact id_part _ HAA.out k (s.size - k) (by simpa using HKP.out.1) (by have := HKP.out.1; omega))]
          by_cases hkz : k = 0
          · subst hkz
            go_wp2_with fail
            go_ret
            exact ⟨rfl, below_then hb1 (below_drewN _ _)⟩
          · have hkz' : ((k : Int) == 0) = false := by rw [beq_eq_false_iff_ne]; omega
            have HKZ := hide hkz
            clear hkz
            go_wp2_with fail
            refine Calls.mono (check_any _ _ (by rw [ByteArray.size_extract]; omega)) ?_
            rintro e w6 ⟨rfl, rfl⟩
            rw [err_true (by rw [ext_list]; exact id_part _ HAA.out 0 (k - 0) (by have := HKP.out.2; simpa using this) (by have := HKZ.out; omega))]
            go_wp2_with fail
            go_ret
            exact ⟨rfl, below_then hb1 (below_drewN _ _)⟩
  · go_quiet (fail)
    have ha := sh_size s
    have hb := sh_size t
    rw [hs2] at ha
    rw [ht2] at hb
    clear hs1 hs2 ht1 ht2 w0 w1t
    go_wp2_with fail
    refine Calls.mono (check_any s _ (by omega)) ?_
    rintro e w2 ⟨rfl, rfl⟩
    go_wp2_with fail
    refine Calls.mono (check_any t _ (by omega)) ?_
    rintro e w3 ⟨rfl, rfl⟩
    have h2 : (s ++ ByteArray.mk #[45]).size ≤ 61 := by rw [ByteArray.size_append]; have h1 : (ByteArray.mk #[45]).size = 1 := rfl; omega
    have h3 := join_size s t ha hb
    cases hA : isId s.data.toList with
    | false =>
      rw [err_false hA]
      go_wp2_with fail
      refine Calls.mono (check_any _ _ h3) ?_
      rintro e w4 ⟨rfl, rfl⟩
      go_wp2_with fail
      go_ret
      exact ⟨rfl, below_then hb1 (below_drewN _ _)⟩
    | true =>
      have hp := id_pos s hA
      obtain ⟨k, hk, htm⟩ := tmod_nat z s.size hp
      have e2 : IntKind.u64.wrap (s.size : Int) = (s.size : Int) := by rw [IntKind.wrap_u64]; omega
      obtain ⟨u, hu⟩ : ∃ u : Int, IntKind.u64.wrap z = u := ⟨_, rfl⟩
      rw [hu] at htm
      have hne : ¬ (s.size : Int) = 0 := by omega
      have e3 : IntKind.i64.wrap (k : Int) = (k : Int) := by rw [IntKind.wrap_i64]; omega
      have hk0 : (0 : Int) ≤ (k : Int) := by omega
      have hk1 : (k : Int) ≤ (s.size : Int) := by omega
      have HKP := hide (And.intro hk hp)
      have HAA := hide hA
      clear hk hp hA
      rw [err_true HAA.out]
      cases hB : isId t.data.toList with
      | false =>
        rw [err_false hB]
        go_wp2_with fail
        refine Calls.mono (check_any _ _ h3) ?_
        rintro e w4 ⟨rfl, rfl⟩
        go_wp2_with fail
        refine Calls.mono (check_any _ _ (by rw [ByteArray.size_extract]; omega)) ?_
        rintro e w5 ⟨rfl, rfl⟩
        rw [err_true (by rw [ext_list]; exact id_part _ HAA.out k (s.size - k) (by simpa using HKP.out.1) (by have := HKP.out.1; omega))]
        by_cases hkz : k = 0
        · subst hkz
          go_wp2_with fail
          go_ret
          exact ⟨rfl, below_then hb1 (below_drewN _ _)⟩
        · have hkz' : ((k : Int) == 0) = false := by rw [beq_eq_false_iff_ne]; omega
          have HKZ := hide hkz
          clear hkz
          go_wp2_with fail
          refine Calls.mono (check_any _ _ (by rw [ByteArray.size_extract]; omega)) ?_
          rintro e w6 ⟨rfl, rfl⟩
          rw [err_true (by rw [ext_list]; exact id_part _ HAA.out 0 (k - 0) (by have := HKP.out.2; simpa using this) (by have := HKZ.out; omega))]
          go_wp2_with fail
          go_ret
          exact ⟨rfl, below_then hb1 (below_drewN _ _)⟩
      | true =>
        have hj := id_join _ _ HAA.out hB
        rw [err_true hB]
        go_wp2_with fail
        refine Calls.mono (check_any _ _ h3) ?_
        rintro e w4 ⟨rfl, rfl⟩
        rw [join_list] at *
        by_cases h24 : (s.size : Int) + (t.size : Int) < 24
        · rw [err_true (by rw [hj]; simp; omega)]
          go_wp2_with fail
          refine Calls.mono (check_any _ _ (by rw [ByteArray.size_extract]; omega)) ?_
          rintro e w5 ⟨rfl, rfl⟩
          rw [err_true (by rw [ext_list]; exact id_part _ HAA.out k (s.size - k) (by simpa using HKP.out.1) (by have := HKP.out.1; omega))]
          by_cases hkz : k = 0
          · subst hkz
            go_wp2_with fail
            go_ret
            exact ⟨rfl, below_then hb1 (below_drewN _ _)⟩
          · have hkz' : ((k : Int) == 0) = false := by rw [beq_eq_false_iff_ne]; omega
            have HKZ := hide hkz
            clear hkz
            go_wp2_with fail
            refine Calls.mono (check_any _ _ (by rw [ByteArray.size_extract]; omega)) ?_
            rintro e w6 ⟨rfl, rfl⟩
            rw [err_true (by rw [ext_list]; exact id_part _ HAA.out 0 (k - 0) (by have := HKP.out.2; simpa using this) (by have := HKZ.out; omega))]
            go_wp2_with fail
            go_ret
            exact ⟨rfl, below_then hb1 (below_drewN _ _)⟩
        · rw [err_false (by rw [hj]; simp; omega)]
          have h24' : (24 : Int) ≤ (s.size : Int) + (t.size : Int) := by omega
          go_wp2_with fail
          refine Calls.mono (check_any _ _ (by rw [ByteArray.size_extract]; omega)) ?_
          rintro e w5 ⟨rfl, rfl⟩
          rw [err_true (by rw [ext_list]; exact id_part _ HAA.out k (s.size - k) (by simpa using HKP.out.1) (by have := HKP.out.1; omega))]
          by_cases hkz : k = 0
          · subst hkz
            go_wp2_with fail
            go_ret
            exact ⟨rfl, below_then hb1 (below_drewN _ _)⟩
          · have hkz' : ((k : Int) == 0) = false := by rw [beq_eq_false_iff_ne]; omega
            have HKZ := hide hkz
            clear hkz
            go_wp2_with fail
            refine Calls.mono (check_any _ _ (by rw [ByteArray.size_extract]; omega)) ?_
            rintro e w6 ⟨rfl, rfl⟩
            rw [err_true (by rw [ext_list]; exact id_part _ HAA.out 0 (k - 0) (by have := HKP.out.2; simpa using this) (by have := HKZ.out; omega))]
            go_wp2_with fail
            go_ret
            exact ⟨rfl, below_then hb1 (below_drewN _ _)⟩
/-! ### the row's step, written by program after the guide's skeleton -/
theorem own : ownKnob Try.prog.godebug = none := by kernel_rfl
theorem laidOut : laidOutB Try.prog = true := by kernel_rfl
set_option maxRecDepth 100000 in
theorem lifted (os : Os) (started : os.Started) (H : Type) (enc : TypeId × Value → H) :
    ReturnsInHanded {} Try.checked os 5 .any (Rows.docPartsSpec.pre6 enc Try.prog Try.f5 Rows.docPartsRow.domain false) (Rows.docPartsSpec.post enc Try.prog Try.f5 false true false false) := by
  refine returnsInHanded_of_change (C := Try.checked) own started (by kernel_rfl) Try.func5
    (ChangeSpec.witness6 (enc := enc) (C := Try.checked) false ⟨#[], #[.string ByteArray.empty, .string ByteArray.empty, .int .i64 0], []⟩ 8 (by kernel_rfl) (by kernel_rfl) (by kernel_rfl) (by kernel_rfl)) ?_
  intro W base args ds gs before hval0 hW hcnd _
  have hval : ∀ (j : Nat) t v, Try.f5.params[j]? = some t → args[j]? = some v → Value.okWide Try.prog W .any base t v := hval0
  have hW' := hW
  obtain ⟨p, q, hA0, hV, rfl, hfz, hnd⟩ := hW
  have hA : DataW.TrodAll enc Try.prog W 0 (fun _ => true) true Try.f5.params.toList args.toList ds p := hA0
  rw [Try.params5] at hA hval
  obtain ⟨v0, vs0, d0, ds0, p0, q0, hargs, rfl, rfl, h0, r0⟩ := trodAll_cons hA
  obtain ⟨v1, vs1, d1, ds1, p1, q1, rfl, rfl, rfl, h1, r1⟩ := trodAll_cons r0
  obtain ⟨v2, vs2, d2, ds2, p2, q2, rfl, rfl, rfl, h2, r2⟩ := trodAll_cons r1
  obtain ⟨rfl, rfl, rfl⟩ := trodAll_nil r2
  obtain rfl : args = #[v0, v1, v2] := by cases args; simp_all
  obtain ⟨rfl, rfl⟩ := trodVars_none hV
  obtain ⟨a0, rfl, rfl, rfl, w0⟩ := open_string Try.underlying9 (hval 0 9 v0 rfl rfl) h0
  obtain ⟨a1, rfl, rfl, rfl, w1⟩ := open_string Try.underlying9 (hval 1 9 v1 rfl rfl) h1
  obtain ⟨a2, rfl, rfl, rfl, w2⟩ := open_int Try.underlying3 (hval 2 3 v2 rfl rfl) h2
  clear hA0 hval0
  refine (walk a0 a1 a2 W w0 w1 w2).mono fun e W' ⟨he, bel⟩ => ?_
  subst he
  exact ⟨_, rfl, _, _, _, [], _, [], hW', trodAll_mk1 (shut_bool Try.underlying4 _), (trodAll_cons_mk (shut_string Try.underlying9 w0) (trodAll_cons_mk (shut_string Try.underlying9 w1) (trodAll_cons_mk (shut_int Try.underlying3 w2) trodAll_mk0))), rfl, bel.frame _, fun h => by cases h⟩

theorem over : Rows.docPartsRow.holds Try.pinned (OpenSpec.ofChange Rows.docPartsSpec) :=
  OpenClaim.holds_of_wide 5 Try.f5 rfl rfl rfl rfl rfl rfl rfl ⟨rfl, rfl, rfl, rfl, rfl⟩ rfl rfl rfl rfl rfl (by kernel_rfl) Try.func5 (by kernel_rfl)
    (of_decide_eq_true (by kernel_rfl)) (by unfold Func.isWrapper; first | (rw [if_pos (by decide +kernel)]; kernel_rfl) | (rw [if_neg (by decide +kernel)]; exact ⟨rfl, rfl⟩))
    (fun os started H enc _ => lifted os started H enc)

theorem proved : Rows.DocPartsSaid := over
end Go.Proofs.Ytmkkbomkonociaa.LawDocParts
