/- The walk of the reference's Print: the canonical quoted text. -/
import Derived.Test.YtbnibiealnogdaaDoorQuoLetter
import Derived.Test.YtbnibiealnogdaaDoorQuoPrint
import Derived.Test.YtbnibiealnogdaaDoorUtfRef
import Derived.Test.YtbnibiealnogdaaDoorUtfList
import Derived.Test.YtbnibiealnogdaaDoorDag
namespace Go.Proofs.YtbnibiealnogdaaDoor
open Go.RowKit

attribute [local go_sem] Dag.gives
/-- a letter that is written says it -/
theorem sig_letter {c : UInt8} {p : Nat} : (letZ c = (p : Int) ∧ c.toNat ≠ 47) ↔ Quo.sig p = some c := by
  constructor
  · rintro ⟨h1, h2⟩
    cases hl : Quo.letter c with
    | none => rw [letZ_no hl] at h1; omega
    | some s =>
      rw [letZ_yes hl] at h1
      have hs : s = p := by omega
      subst hs
      rcases Quo.letter_cases hl with ⟨rfl, rfl⟩ | ⟨rfl, rfl⟩ | ⟨rfl, rfl⟩ | ⟨rfl, rfl⟩ | ⟨rfl, rfl⟩ | ⟨rfl, rfl⟩ | ⟨rfl, rfl⟩ | ⟨rfl, rfl⟩
      · rfl
      · rfl
      · exact absurd rfl h2
      · rfl
      · rfl
      · rfl
      · rfl
      · rfl
  · intro h
    have hl := (Quo.sig_cases h).1
    refine ⟨letZ_yes hl, ?_⟩
    rintro h47
    have : c = 47 := UInt8.toNat_inj.1 h47
    subst this
    have h1 : Quo.letter 47 = some 47 := rfl
    rw [h1] at hl
    have hp := Option.some.inj hl
    subst hp
    revert h
    decide
theorem sig_small {c : UInt8} {p : Nat} (h : Quo.sig p = some c) : c.toNat < 128 := by
  rcases Quo.letter_cases (Quo.sig_cases h).1 with ⟨rfl, _⟩ | ⟨rfl, _⟩ | ⟨rfl, _⟩ | ⟨rfl, _⟩ | ⟨rfl, _⟩ | ⟨rfl, _⟩ | ⟨rfl, _⟩ | ⟨rfl, _⟩ <;> decide
/-- what lies in own before the signs are looked through -/
def base (p : Nat) : List UInt8 := if p < 32 then [92, 117, 48, 48, Quo.hexd (p / 16), Quo.hexd (p % 16)] else Utf.enc p
/-- what lies in own behind the first t signs -/
def ownAt (p t : Nat) : List UInt8 := match Quo.sig p with
  | some c => if c.toNat < t then [92, c] else base p
  | none => base p
theorem own_zero (p : Nat) : ownAt p 0 = base p := by
  unfold ownAt
  cases Quo.sig p with
  | none => rfl
  | some c => exact if_neg (by omega)
theorem own_end (p : Nat) : ownAt p 128 = Quo.item p := by
  unfold ownAt Quo.item base
  cases h : Quo.sig p with
  | none => rfl
  | some c => exact if_pos (sig_small h)
theorem own_hit {p : Nat} {c : UInt8} (h : Quo.sig p = some c) : ownAt p (c.toNat + 1) = [92, c] := by
  unfold ownAt; rw [h]; exact if_pos (by omega)
theorem own_miss {p : Nat} {c : UInt8} (h : ¬ Quo.sig p = some c) : ownAt p (c.toNat + 1) = ownAt p c.toNat := by
  unfold ownAt
  cases hs : Quo.sig p with
  | none => rfl
  | some d =>
    simp only
    have hne : d.toNat ≠ c.toNat := fun e => h (by rw [hs, UInt8.toNat_inj.1 e])
    by_cases h1 : d.toNat < c.toNat
    · rw [if_pos (by omega), if_pos h1]
    · rw [if_neg (by omega), if_neg h1]
theorem first_row (w : World) : (w.alloc (.cells #[.int .u8 34] 5)).ownsRow w.heap.size 5 1 (.slice (some ⟨w.heap.size, 0, none⟩) 1 1) 1 (bytes [34]) :=
  ⟨rfl, .inr ⟨w.heap.size, 1, #[.int .u8 34], rfl, Nat.le_refl _, heap_alloc_new w _, by simp [bytes, maxLen]⟩⟩
set_option maxRecDepth 100000 in
set_option maxHeartbeats 8000000 in
theorem rPrintQ_any (A : Option Addr) (n c : Nat) (ps : List Nat) (w : World) (hA : RI w A n (zs ps)) (hcp : Utf.allCp ps) (hn : n ≤ 1000) :
    Calls Tryd.prog 14 #[.slice A n c] w fun e w' => e = .returned (.string (str (quoted ps))) ∧ Below w.heap.size w w' := by
  obtain ⟨i0, hi, hz0, hz1, hz2⟩ := info_parts u8_info
  have HL := hide (show ps.length = n by have := hA.len; rwa [zs_len] at this)
  have HA := hide hA
  have HCP := hide hcp
  have HR1 := hide (first_row w)
  clear hA hcp
  go_enter Tryd.func14, Tryd.ntmps14
  go_wp2_with fail
  go_loopw [3, 5] (fun a i wr => ∃ j : Nat, i = .int .i64 (j : Int) ∧ j ≤ n ∧ Hid (wr.ownsRow w.heap.size 5 1 a (34 :: Quo.items (ps.take j)).length (bytes (34 :: Quo.items (ps.take j)))) ∧ Hid (Below w.heap.size w wr)) (fun _ i _ => n - (intOf i).toNat)
  case atStart => exact ⟨0, rfl, Nat.zero_le _, HR1, hide (below_alloc _ _)⟩
  case round =>
    obtain ⟨j, rfl, hj, ho, hb⟩ := hrel
    by_cases hlt : j < n
    · have hjl : j < ps.length := by rw [HL.out]; exact hlt
      obtain ⟨b, o, rfl, hbl, hc0⟩ := (HA.out.on hb.out).cell (k := j) (by rw [zs_len]; exact hjl)
      rw [show (zs ps)[j]'(by rw [zs_len]; exact hjl) = (ps[j] : Int) by simp [zs]] at hc0
      have HTK := hide (show ps.take (j + 1) = ps.take j ++ [ps[j]] from List.take_succ_eq_append_getElem hjl)
      have HPC := hide (HCP.out ps[j] (List.getElem_mem hjl))
      obtain ⟨p, hp⟩ : ∃ p, p = ps[j] := ⟨_, rfl⟩
      rw [← hp] at hc0 HTK HPC
      have hj0 : (0 : Int) ≤ (j : Int) := by omega
      have hj1 : (j : Int) < (n : Int) := by omega
      clear hp
      go_wp2_with fail
      refine Calls.mono (rBytes_any p _ HPC.out) ?_
      rintro e w5 ⟨A5, c5, rfl, hr5, hc5, hm55, hb5⟩
      have HR5 := hide hr5
      have HC5 := hide (And.intro hc5 hm55)
      have HB5 := hide (below_then hb.out hb5)
      have HO5 := hide (own_on ho.out hb5)
      have hc1 := keep_cell hb5 hc0
      clear hr5 hc5 hm55 hb5 hc0
      by_cases hlow : p < 32
      · have q1 : (p : Int) < 32 := by omega
        obtain ⟨d, hd⟩ : ∃ d, d = p / 16 := ⟨_, rfl⟩
        obtain ⟨r, hr⟩ : ∃ r, r = p % 16 := ⟨_, rfl⟩
        have e1 : (p : Int).tdiv 16 = (d : Int) := by rw [Int.tdiv_eq_ediv_of_nonneg (by omega)]; omega
        have e2 : (p : Int).tmod 16 = (r : Int) := by rw [Int.tmod_eq_emod_of_nonneg (by omega)]; omega
        have e3 : (p : Int) / 16 = (d : Int) := by omega
        have e4 : (p : Int) % 16 = (r : Int) := by omega
        have l1 : d < (ByteArray.mk #[48, 49, 50, 51, 52, 53, 54, 55, 56, 57, 97, 98, 99, 100, 101, 102]).size := by show d < 16; omega
        have l2 : r < (ByteArray.mk #[48, 49, 50, 51, 52, 53, 54, 55, 56, 57, 97, 98, 99, 100, 101, 102]).size := by show r < 16; omega
        have x1 : ((ByteArray.mk #[48, 49, 50, 51, 52, 53, 54, 55, 56, 57, 97, 98, 99, 100, 101, 102])[d]'l1).toNat = (Quo.hexd d).toNat := congrArg UInt8.toNat (low_hex _ l1)
        have x2 : ((ByteArray.mk #[48, 49, 50, 51, 52, 53, 54, 55, 56, 57, 97, 98, 99, 100, 101, 102])[r]'l2).toNat = (Quo.hexd r).toNat := congrArg UInt8.toNat (low_hex _ l2)
        have g1 : (0 : Int) ≤ (d : Int) := by omega
        have g2 : (d : Int) < 16 := by omega
        have g3 : (0 : Int) ≤ (r : Int) := by omega
        have g4 : (r : Int) < 16 := by omega
        have w1 : IntKind.i64.wrap (d : Int) = (d : Int) := by rw [IntKind.wrap_i64]; omega
        have w2 : IntKind.i64.wrap (r : Int) = (r : Int) := by rw [IntKind.wrap_i64]; omega
        have HBASE := hide (show base p = [92, 117, 48, 48, Quo.hexd d, Quo.hexd r] by rw [hd, hr]; exact if_pos hlow)
        clear hd hr
        clear hlow
        go_wp2_with fail
        refine Dag.wp_region_facts 15 (Dag.list [Dag.Is (.string (ByteArray.mk #[48, 49, 50, 51, 52, 53, 54, 55, 56, 57, 97, 98, 99, 100, 101, 102])), Dag.Is (.slice (some ⟨b, o, none⟩) n c), Dag.Is (.int .i64 (j : Int)), Dag.Is (.pointer (some ⟨b, o + j, none⟩)), Dag.Is (.int .i64 (p : Int)), Dag.Is (.int .i64 (d : Int)), Dag.Is (.int .u8 ((Quo.hexd d).toNat : Int)), Dag.Is (.string (ByteArray.mk #[48, 49, 50, 51, 52, 53, 54, 55, 56, 57, 97, 98, 99, 100, 101, 102])), Dag.Is (.slice (some ⟨b, o, none⟩) n c), Dag.Is (.int .i64 (j : Int)), Dag.Is (.pointer (some ⟨b, o + j, none⟩)), Dag.Is (.int .i64 (p : Int)), Dag.Is (.int .i64 (r : Int)), Dag.Is (.int .u8 ((Quo.hexd r).toNat : Int)), Dag.Sl (base p)]) (by kernel_rfl) (by kernel_rfl) (Dag.stable_list (by simp [Dag.Stable.is, Dag.Stable.sl])) ?_ ?_
        · intro vs W hbW
          simp only [Dag.allOps, List.take_succ_cons, List.take_zero, Dag.fill, Act.put, List.setIfInBounds_toArray, List.set_cons_succ, List.set_cons_zero, Dag.deps, Region.binds, Dag.list, Dag.Is, List.getD_cons_zero, List.getD_cons_succ, and_true, forall_const, Nat.reduceAdd, Region.wanted, reduceIte]
          refine ⟨?_, ?_, ?_, ?_, ?_, ?_, ?_, ?_, ?_, ?_, ?_, ?_, ?_, ?_, ?_⟩
          · (try intro hd); go_simp; (first | done | exact ⟨Below.refl _ _, rfl⟩ | exact Below.refl _ _)
          · (try intro hd); go_simp; (first | done | exact ⟨Below.refl _ _, rfl⟩ | exact Below.refl _ _)
          · (try intro hd); go_simp; (first | done | exact ⟨Below.refl _ _, rfl⟩ | exact Below.refl _ _)
          · (try intro hd); go_simp; (first | done | exact ⟨Below.refl _ _, rfl⟩ | exact Below.refl _ _)
          · (try intro hd); have hz := keep_cell hbW hc1; go_simp; (first | done | exact ⟨Below.refl _ _, rfl⟩ | exact Below.refl _ _)
          · (try intro hd); go_simp; (first | done | exact ⟨Below.refl _ _, rfl⟩ | exact Below.refl _ _)
          · (try intro hd); go_simp; (first | done | exact ⟨Below.refl _ _, rfl⟩ | exact Below.refl _ _)
          · (try intro hd); go_simp; (first | done | exact ⟨Below.refl _ _, rfl⟩ | exact Below.refl _ _)
          · (try intro hd); go_simp; (first | done | exact ⟨Below.refl _ _, rfl⟩ | exact Below.refl _ _)
          · (try intro hd); go_simp; (first | done | exact ⟨Below.refl _ _, rfl⟩ | exact Below.refl _ _)
          · (try intro hd); go_simp; (first | done | exact ⟨Below.refl _ _, rfl⟩ | exact Below.refl _ _)
          · (try intro hd); have hz := keep_cell hbW hc1; go_simp; (first | done | exact ⟨Below.refl _ _, rfl⟩ | exact Below.refl _ _)
          · (try intro hd); go_simp; (first | done | exact ⟨Below.refl _ _, rfl⟩ | exact Below.refl _ _)
          · (try intro hd); go_simp; (first | done | exact ⟨Below.refl _ _, rfl⟩ | exact Below.refl _ _)
          · (try intro hd); rw [HBASE.out]; go_simp; exact ⟨below_alloc _ _, some ⟨W.heap.size, 0, none⟩, 6, 6, rfl, Nat.le_refl _, RB.lit W 5 _ _ 6 rfl rfl⟩
        · intro vs W hbW hk
          simp only [Dag.known, Dag.list, Dag.Is, List.getD_cons_zero, List.getD_cons_succ, and_true] at hk
          obtain ⟨k0, k1, k2, k3, k4, k5, k6, k7, k8, k9, k10, k11, k12, k13, k14⟩ := hk
          simp only [List.take_succ_cons, List.take_zero, List.drop_succ_cons, List.drop_zero, Dag.fill, Act.put, List.setIfInBounds_toArray, List.set_cons_succ, List.set_cons_zero, Nat.reduceAdd, k0, k1, k2, k3, k4, k5, k6, k7, k8, k9, k10, k11, k12, k13]
          clear k0 k1 k2 k3 k4 k5 k6 k7 k8 k9 k10 k11 k12 k13
          obtain ⟨A6, m6, c6, hv, hc6, hr6⟩ := k14
          simp only [Nat.zero_add, Nat.reduceAdd] at hv
          rw [hv]
          have HRB0 : Hid (RB W A6 m6 (ownAt p 0)) := hide (by rw [own_zero]; exact hr6)
          have HO0 := hide (own_on HO5.out hbW)
          have HB0 := hide (below_then HB5.out hbW)
          have HC0 := hide (keep_cell hbW hc1)
          clear hv hr6 hbW hc1 e1 e2 e3 e4 l1 l2 x1 x2 g1 g2 g3 g4 w1 w2
          go_wp2_with fail
          go_loopw [6, 7] (fun v i wr => ∃ (t : Nat) (A6 : Option Addr) (m6 c6 : Nat), i = .int .u8 (t : Int) ∧ t ≤ 128 ∧ v = .slice A6 m6 c6 ∧ Hid (RB wr A6 m6 (ownAt p t)) ∧ Hid (wr.ownsRow w.heap.size 5 1 u3 (34 :: Quo.items (ps.take j)).length (bytes (34 :: Quo.items (ps.take j)))) ∧ Hid (Below w.heap.size w wr) ∧ Hid (wr.cell? ⟨b, o + j, none⟩ = some (.int .i64 (p : Int)))) (fun _ i _ => 128 - (intOf i).toNat)
          case atStart => exact ⟨0, _, _, _, rfl, by omega, rfl, HRB0, HO0, HB0, HC0⟩
          case round =>
            clear HRB0 HO0 HB0 HC0
            obtain ⟨t, A6, m6, c6, rfl, ht, rfl, hrb6, ho6, hb6, hc6⟩ := hrel
            have hc2 := hc6.out
            by_cases ht8 : t < 128
            · have q2 : (t : Int) < 128 := by omega
              obtain ⟨y, hy⟩ : ∃ y : UInt8, y.toNat = t := ⟨UInt8.ofNat t, by rw [UInt8.toNat_ofNat']; omega⟩
              have HLT := hide (fun W => rLetter_any y W)
              rw [hy] at HLT
              have wt : ((t : Int) + 1) % 256 = (((t + 1 : Nat)) : Int) := by omega
              by_cases hs : Quo.sig p = some y
              · obtain ⟨z1, z2⟩ := sig_letter.2 hs
                rw [z1] at HLT
                have HOWN := hide (show ownAt p (t + 1) = [92, y] by rw [← hy]; exact own_hit hs)
                have hpp : ((p : Int) == (p : Int)) = true := by simp
                have h47 : ((t : Int) != 47) = true := by rw [bne_iff_ne]; omega
                clear hs z1 z2
                go_wp2_with fail
                refine Dag.wp_region_facts 11 (Dag.list [Dag.Is (.int .u8 (t : Int)), Dag.Is (.int .i64 (p : Int)), Dag.Is (.slice (some ⟨b, o, none⟩) n c), Dag.Is (.int .i64 (j : Int)), Dag.Is (.pointer (some ⟨b, o + j, none⟩)), Dag.Is (.int .i64 (p : Int)), Dag.Is (.bool true), Dag.Is (.bool true), Dag.Is (.int .u8 (t : Int)), Dag.Is (.bool true), Dag.Is (.bool true)]) (by kernel_rfl) (by kernel_rfl) (Dag.stable_list (by simp [Dag.Stable.is])) ?_ ?_
                · intro vs W hbW
                  simp only [Dag.allOps, List.take_succ_cons, List.take_zero, Dag.fill, Act.put, List.setIfInBounds_toArray, List.set_cons_succ, List.set_cons_zero, Dag.deps, Region.binds, Dag.list, Dag.Is, List.getD_cons_zero, List.getD_cons_succ, and_true, forall_const, Nat.reduceAdd, Region.wanted, reduceIte]
                  refine ⟨?_, ?_, ?_, ?_, ?_, ?_, ?_, ?_, ?_, ?_, ?_⟩
                  · (try intro hd); go_simp; (first | done | exact ⟨Below.refl _ _, rfl⟩ | exact Below.refl _ _)
                  · (try intro hd); go_simp; refine (HLT.out W).mono ?_; rintro e w' ⟨rfl, hb⟩; exact ⟨rfl, hb⟩
                  · (try intro hd); go_simp; (first | done | exact ⟨Below.refl _ _, rfl⟩ | exact Below.refl _ _)
                  · (try intro hd); go_simp; (first | done | exact ⟨Below.refl _ _, rfl⟩ | exact Below.refl _ _)
                  · (try intro hd); go_simp; (first | done | exact ⟨Below.refl _ _, rfl⟩ | exact Below.refl _ _)
                  · (try intro hd); have hz := keep_cell hbW hc2; go_simp; (first | done | exact ⟨Below.refl _ _, rfl⟩ | exact Below.refl _ _)
                  · (try intro hd); go_simp; (first | done | exact ⟨Below.refl _ _, rfl⟩ | exact Below.refl _ _)
                  · (try intro hd); go_simp; (first | done | exact ⟨Below.refl _ _, rfl⟩ | exact Below.refl _ _)
                  · (try intro hd); go_simp; (first | done | exact ⟨Below.refl _ _, rfl⟩ | exact Below.refl _ _)
                  · (try intro hd); go_simp; (first | done | exact ⟨Below.refl _ _, rfl⟩ | exact Below.refl _ _)
                  · (try intro hd); go_simp; (first | done | exact ⟨Below.refl _ _, rfl⟩ | exact Below.refl _ _)
                · intro vs W hbW hk
                  simp only [Dag.known, Dag.list, Dag.Is, List.getD_cons_zero, List.getD_cons_succ, and_true] at hk
                  obtain ⟨k0, k1, k2, k3, k4, k5, k6, k7, k8, k9, k10⟩ := hk
                  simp only [List.take_succ_cons, List.take_zero, List.drop_succ_cons, List.drop_zero, Dag.fill, Act.put, List.setIfInBounds_toArray, List.set_cons_succ, List.set_cons_zero, Nat.reduceAdd, k0, k1, k2, k3, k4, k5, k6, k7, k8, k9, k10]
                  clear k0 k1 k2 k3 k4 k5 k6 k7 k8 k9 k10
                  go_wp2_with fail
                  have hbA := below_then hbW (below_alloc W (.cells #[.int .u8 92, .int .u8 (t : Int)] 5))
                  refine ⟨⟨t + 1, some ⟨W.heap.size, 0, none⟩, 2, 2, by first | rfl | (congr 1), by omega, rfl, hide ?_, hide (own_on ho6.out hbA), hide (below_then hb6.out hbA), hide (keep_cell hbA hc2)⟩, by simp [intOf]; omega⟩
                  rw [HOWN.out]
                  exact RB.lit W 5 _ [92, y] 2 rfl (by simp [bytes, hy])
              · have HOWN := hide (show ownAt p (t + 1) = ownAt p t by rw [← hy]; exact own_miss hs)
                by_cases hz : letZ y = (p : Int)
                · have h47' : t = 47 := by
                    by_cases h : t = 47
                    · exact h
                    · exact absurd (sig_letter.1 ⟨hz, by rw [hy]; exact h⟩) hs
                  rw [hz] at HLT
                  have hpp : ((p : Int) == (p : Int)) = true := by simp
                  have h47 : ((t : Int) != 47) = false := by rw [h47']; rfl
                  clear hs hz h47'
                  go_wp2_with fail
                  refine Dag.wp_region_facts 11 (Dag.list [Dag.Is (.int .u8 (t : Int)), Dag.Is (.int .i64 (p : Int)), Dag.Is (.slice (some ⟨b, o, none⟩) n c), Dag.Is (.int .i64 (j : Int)), Dag.Is (.pointer (some ⟨b, o + j, none⟩)), Dag.Is (.int .i64 (p : Int)), Dag.Is (.bool true), Dag.Is (.bool true), Dag.Is (.int .u8 (t : Int)), Dag.Is (.bool false), Dag.Is (.bool false)]) (by kernel_rfl) (by kernel_rfl) (Dag.stable_list (by simp [Dag.Stable.is])) ?_ ?_
                  · intro vs W hbW
                    simp only [Dag.allOps, List.take_succ_cons, List.take_zero, Dag.fill, Act.put, List.setIfInBounds_toArray, List.set_cons_succ, List.set_cons_zero, Dag.deps, Region.binds, Dag.list, Dag.Is, List.getD_cons_zero, List.getD_cons_succ, and_true, forall_const, Nat.reduceAdd, Region.wanted, reduceIte]
                    refine ⟨?_, ?_, ?_, ?_, ?_, ?_, ?_, ?_, ?_, ?_, ?_⟩
                    · (try intro hd); go_simp; (first | done | exact ⟨Below.refl _ _, rfl⟩ | exact Below.refl _ _)
                    · (try intro hd); go_simp; refine (HLT.out W).mono ?_; rintro e w' ⟨rfl, hb⟩; exact ⟨rfl, hb⟩
                    · (try intro hd); go_simp; (first | done | exact ⟨Below.refl _ _, rfl⟩ | exact Below.refl _ _)
                    · (try intro hd); go_simp; (first | done | exact ⟨Below.refl _ _, rfl⟩ | exact Below.refl _ _)
                    · (try intro hd); go_simp; (first | done | exact ⟨Below.refl _ _, rfl⟩ | exact Below.refl _ _)
                    · (try intro hd); have hz := keep_cell hbW hc2; go_simp; (first | done | exact ⟨Below.refl _ _, rfl⟩ | exact Below.refl _ _)
                    · (try intro hd); go_simp; (first | done | exact ⟨Below.refl _ _, rfl⟩ | exact Below.refl _ _)
                    · (try intro hd); go_simp; (first | done | exact ⟨Below.refl _ _, rfl⟩ | exact Below.refl _ _)
                    · (try intro hd); go_simp; (first | done | exact ⟨Below.refl _ _, rfl⟩ | exact Below.refl _ _)
                    · (try intro hd); go_simp; (first | done | exact ⟨Below.refl _ _, rfl⟩ | exact Below.refl _ _)
                    · (try intro hd); go_simp; (first | done | exact ⟨Below.refl _ _, rfl⟩ | exact Below.refl _ _)
                  · intro vs W hbW hk
                    simp only [Dag.known, Dag.list, Dag.Is, List.getD_cons_zero, List.getD_cons_succ, and_true] at hk
                    obtain ⟨k0, k1, k2, k3, k4, k5, k6, k7, k8, k9, k10⟩ := hk
                    simp only [List.take_succ_cons, List.take_zero, List.drop_succ_cons, List.drop_zero, Dag.fill, Act.put, List.setIfInBounds_toArray, List.set_cons_succ, List.set_cons_zero, Nat.reduceAdd, k0, k1, k2, k3, k4, k5, k6, k7, k8, k9, k10]
                    clear k0 k1 k2 k3 k4 k5 k6 k7 k8 k9 k10
                    go_wp2_with fail
                    exact ⟨⟨t + 1, A6, m6, c6, by first | rfl | (congr 1), by omega, rfl, hide (by rw [HOWN.out]; exact hrb6.out.on hbW), hide (own_on ho6.out hbW), hide (below_then hb6.out hbW), hide (keep_cell hbW hc2)⟩, by simp [intOf]; omega⟩
                · have hpp : (letZ y == (p : Int)) = false := by rw [beq_eq_false_iff_ne]; exact hz
                  generalize letZ y = lz at *
                  clear hs hz
                  go_wp2_with fail
                  refine Dag.wp_region_facts 11 (Dag.list [Dag.Is (.int .u8 (t : Int)), Dag.Is (.int .i64 lz), Dag.Is (.slice (some ⟨b, o, none⟩) n c), Dag.Is (.int .i64 (j : Int)), Dag.Is (.pointer (some ⟨b, o + j, none⟩)), Dag.Is (.int .i64 (p : Int)), Dag.Is (.bool false), Dag.Is (.bool false), Dag.Any, Dag.Any, Dag.Is (.bool false)]) (by kernel_rfl) (by kernel_rfl) (Dag.stable_list (by simp [Dag.Stable.is, Dag.Stable.any])) ?_ ?_
                  · intro vs W hbW
                    simp only [Dag.allOps, List.take_succ_cons, List.take_zero, Dag.fill, Act.put, List.setIfInBounds_toArray, List.set_cons_succ, List.set_cons_zero, Dag.deps, Region.binds, Dag.list, Dag.Is, Dag.Any, List.getD_cons_zero, List.getD_cons_succ, and_true, forall_const, Nat.reduceAdd, Region.wanted, reduceIte]
                    refine ⟨?_, ?_, ?_, ?_, ?_, ?_, ?_, ?_, ?_, ?_, ?_⟩
                    · (try intro hd); go_simp; (first | done | exact ⟨Below.refl _ _, rfl⟩ | exact Below.refl _ _)
                    · (try intro hd); go_simp; refine (HLT.out W).mono ?_; rintro e w' ⟨rfl, hb⟩; exact ⟨rfl, hb⟩
                    · (try intro hd); go_simp; (first | done | exact ⟨Below.refl _ _, rfl⟩ | exact Below.refl _ _)
                    · (try intro hd); go_simp; (first | done | exact ⟨Below.refl _ _, rfl⟩ | exact Below.refl _ _)
                    · (try intro hd); go_simp; (first | done | exact ⟨Below.refl _ _, rfl⟩ | exact Below.refl _ _)
                    · (try intro hd); have hz := keep_cell hbW hc2; go_simp; (first | done | exact ⟨Below.refl _ _, rfl⟩ | exact Below.refl _ _)
                    · (try intro hd); go_simp; (first | done | exact ⟨Below.refl _ _, rfl⟩ | exact Below.refl _ _)
                    · (try intro hd); go_simp; (first | done | exact ⟨Below.refl _ _, rfl⟩ | exact Below.refl _ _)
                    · (try intro hd); go_simp; (first | done | exact ⟨Below.refl _ _, rfl⟩ | exact Below.refl _ _)
                    · (try intro hd); go_simp; (first | done | exact ⟨Below.refl _ _, rfl⟩ | exact Below.refl _ _)
                    · (try intro hd); go_simp; (first | done | exact ⟨Below.refl _ _, rfl⟩ | exact Below.refl _ _)
                  · intro vs W hbW hk
                    simp only [Dag.known, Dag.list, Dag.Is, Dag.Any, List.getD_cons_zero, List.getD_cons_succ, and_true] at hk
                    obtain ⟨k0, k1, k2, k3, k4, k5, k6, k7, k8, k9, k10⟩ := hk
                    simp only [List.take_succ_cons, List.take_zero, List.drop_succ_cons, List.drop_zero, Dag.fill, Act.put, List.setIfInBounds_toArray, List.set_cons_succ, List.set_cons_zero, Nat.reduceAdd, k0, k1, k2, k3, k4, k5, k6, k7, k10]
                    clear k0 k1 k2 k3 k4 k5 k6 k7 k10
                    go_wp2_with fail
                    exact ⟨⟨t + 1, A6, m6, c6, by first | rfl | (congr 1), by omega, rfl, hide (by rw [HOWN.out]; exact hrb6.out.on hbW), hide (own_on ho6.out hbW), hide (below_then hb6.out hbW), hide (keep_cell hbW hc2)⟩, by simp [intOf]; omega⟩
            · obtain rfl : t = 128 := by omega
              have HI := hide (show RB wr A6 m6 (Quo.item p) by rw [← own_end]; exact hrb6.out)
              have hm6 : m6 ≤ 6 := by rw [← HI.out.len]; exact Quo.item_six HPC.out
              obtain ⟨LEN, hLEN⟩ : ∃ LEN, LEN = (34 :: Quo.items (ps.take j)).length := ⟨_, rfl⟩
              have hlen : LEN ≤ 24001 := by
                have h1 : Utf.allCp (ps.take j) := fun q hq => HCP.out q (List.mem_of_mem_take hq)
                have h2 := items_len h1
                have h3 := encs_le _ h1
                rw [List.length_take] at h3
                rw [hLEN, List.length_cons]; omega
              rw [← hLEN] at ho6
              have HLEN := hide hLEN
              have hbs := hb6.out.size
              clear hLEN
              go_wp2_with (at_builtin; go_loud (refine wpList_append_reads rfl (.tmp 57) (.tmp 58) _ rfl w.heap.size 5 i0 (.int .u8 0) 1 1 Tryd.underlying29 hi hz0 hz1 hz2 rfl (by omega) u3 LEN (bytes (34 :: Quo.items (ps.take j))) rfl ho6.out wr.heap.size A6 m6 c6 (bytes (Quo.item p)) rfl HI.out bytes_one (by unfold maxLen; omega) (by omega) hbs ?_); intro v7 w7 hown7 hg7 hat7)
              have HB7 := hide (hb6.out.grown hg7 hbs fun k hk => (ho6.out.lt k hk).1)
              have HO7 := hide (show w7.ownsRow w.heap.size 5 1 v7 (34 :: Quo.items (ps.take (j + 1))).length (bytes (34 :: Quo.items (ps.take (j + 1)))) by
                rw [HTK.out, items_snoc, List.length_append, ← HLEN.out, HI.out.len, bytes_append]; exact hown7)
              clear hown7 hg7 hat7 hbs
              go_roundw
              case rel => exact ⟨j + 1, by go_num, by omega, HO7, HB7⟩
              case measure => simp [intOf]; omega
      · have q1 : ¬ (p : Int) < 32 := by omega
        have HRB0 : Hid (RB w5 A5 (Utf.enc p).length (ownAt p 0)) := hide (by rw [own_zero, show base p = Utf.enc p from if_neg hlow]; exact HR5.out)
        have HO0 := HO5
        have HB0 := HB5
        have HC0 := hide hc1
        clear hlow
        go_wp2_with fail
        clear hc1
        go_loopw [6, 7] (fun v i wr => ∃ (t : Nat) (A6 : Option Addr) (m6 c6 : Nat), i = .int .u8 (t : Int) ∧ t ≤ 128 ∧ v = .slice A6 m6 c6 ∧ Hid (RB wr A6 m6 (ownAt p t)) ∧ Hid (wr.ownsRow w.heap.size 5 1 u3 (34 :: Quo.items (ps.take j)).length (bytes (34 :: Quo.items (ps.take j)))) ∧ Hid (Below w.heap.size w wr) ∧ Hid (wr.cell? ⟨b, o + j, none⟩ = some (.int .i64 (p : Int)))) (fun _ i _ => 128 - (intOf i).toNat)
        case atStart => exact ⟨0, _, _, _, rfl, by omega, rfl, HRB0, HO0, HB0, HC0⟩
        case round =>
          clear HRB0 HO0 HB0 HC0
          obtain ⟨t, A6, m6, c6, rfl, ht, rfl, hrb6, ho6, hb6, hc6⟩ := hrel
          have hc2 := hc6.out
          by_cases ht8 : t < 128
          · have q2 : (t : Int) < 128 := by omega
            obtain ⟨y, hy⟩ : ∃ y : UInt8, y.toNat = t := ⟨UInt8.ofNat t, by rw [UInt8.toNat_ofNat']; omega⟩
            have HLT := hide (fun W => rLetter_any y W)
            rw [hy] at HLT
            have wt : ((t : Int) + 1) % 256 = (((t + 1 : Nat)) : Int) := by omega
            by_cases hs : Quo.sig p = some y
            · obtain ⟨z1, z2⟩ := sig_letter.2 hs
              rw [z1] at HLT
              have HOWN := hide (show ownAt p (t + 1) = [92, y] by rw [← hy]; exact own_hit hs)
              have hpp : ((p : Int) == (p : Int)) = true := by simp
              have h47 : ((t : Int) != 47) = true := by rw [bne_iff_ne]; omega
              clear hs z1 z2
              go_wp2_with fail
              refine Dag.wp_region_facts 11 (Dag.list [Dag.Is (.int .u8 (t : Int)), Dag.Is (.int .i64 (p : Int)), Dag.Is (.slice (some ⟨b, o, none⟩) n c), Dag.Is (.int .i64 (j : Int)), Dag.Is (.pointer (some ⟨b, o + j, none⟩)), Dag.Is (.int .i64 (p : Int)), Dag.Is (.bool true), Dag.Is (.bool true), Dag.Is (.int .u8 (t : Int)), Dag.Is (.bool true), Dag.Is (.bool true)]) (by kernel_rfl) (by kernel_rfl) (Dag.stable_list (by simp [Dag.Stable.is])) ?_ ?_
              · intro vs W hbW
                simp only [Dag.allOps, List.take_succ_cons, List.take_zero, Dag.fill, Act.put, List.setIfInBounds_toArray, List.set_cons_succ, List.set_cons_zero, Dag.deps, Region.binds, Dag.list, Dag.Is, List.getD_cons_zero, List.getD_cons_succ, and_true, forall_const, Nat.reduceAdd, Region.wanted, reduceIte]
                refine ⟨?_, ?_, ?_, ?_, ?_, ?_, ?_, ?_, ?_, ?_, ?_⟩
                · (try intro hd); go_simp; (first | done | exact ⟨Below.refl _ _, rfl⟩ | exact Below.refl _ _)
                · (try intro hd); go_simp; refine (HLT.out W).mono ?_; rintro e w' ⟨rfl, hb⟩; exact ⟨rfl, hb⟩
                · (try intro hd); go_simp; (first | done | exact ⟨Below.refl _ _, rfl⟩ | exact Below.refl _ _)
                · (try intro hd); go_simp; (first | done | exact ⟨Below.refl _ _, rfl⟩ | exact Below.refl _ _)
                · (try intro hd); go_simp; (first | done | exact ⟨Below.refl _ _, rfl⟩ | exact Below.refl _ _)
                · (try intro hd); have hz := keep_cell hbW hc2; go_simp; (first | done | exact ⟨Below.refl _ _, rfl⟩ | exact Below.refl _ _)
                · (try intro hd); go_simp; (first | done | exact ⟨Below.refl _ _, rfl⟩ | exact Below.refl _ _)
                · (try intro hd); go_simp; (first | done | exact ⟨Below.refl _ _, rfl⟩ | exact Below.refl _ _)
                · (try intro hd); go_simp; (first | done | exact ⟨Below.refl _ _, rfl⟩ | exact Below.refl _ _)
                · (try intro hd); go_simp; (first | done | exact ⟨Below.refl _ _, rfl⟩ | exact Below.refl _ _)
                · (try intro hd); go_simp; (first | done | exact ⟨Below.refl _ _, rfl⟩ | exact Below.refl _ _)
              · intro vs W hbW hk
                simp only [Dag.known, Dag.list, Dag.Is, List.getD_cons_zero, List.getD_cons_succ, and_true] at hk
                obtain ⟨k0, k1, k2, k3, k4, k5, k6, k7, k8, k9, k10⟩ := hk
                simp only [List.take_succ_cons, List.take_zero, List.drop_succ_cons, List.drop_zero, Dag.fill, Act.put, List.setIfInBounds_toArray, List.set_cons_succ, List.set_cons_zero, Nat.reduceAdd, k0, k1, k2, k3, k4, k5, k6, k7, k8, k9, k10]
                clear k0 k1 k2 k3 k4 k5 k6 k7 k8 k9 k10
                go_wp2_with fail
                have hbA := below_then hbW (below_alloc W (.cells #[.int .u8 92, .int .u8 (t : Int)] 5))
                refine ⟨⟨t + 1, some ⟨W.heap.size, 0, none⟩, 2, 2, by first | rfl | (congr 1), by omega, rfl, hide ?_, hide (own_on ho6.out hbA), hide (below_then hb6.out hbA), hide (keep_cell hbA hc2)⟩, by simp [intOf]; omega⟩
                rw [HOWN.out]
                exact RB.lit W 5 _ [92, y] 2 rfl (by simp [bytes, hy])
            · have HOWN := hide (show ownAt p (t + 1) = ownAt p t by rw [← hy]; exact own_miss hs)
              by_cases hz : letZ y = (p : Int)
              · have h47' : t = 47 := by
                  by_cases h : t = 47
                  · exact h
                  · exact absurd (sig_letter.1 ⟨hz, by rw [hy]; exact h⟩) hs
                rw [hz] at HLT
                have hpp : ((p : Int) == (p : Int)) = true := by simp
                have h47 : ((t : Int) != 47) = false := by rw [h47']; rfl
                clear hs hz h47'
                go_wp2_with fail
                refine Dag.wp_region_facts 11 (Dag.list [Dag.Is (.int .u8 (t : Int)), Dag.Is (.int .i64 (p : Int)), Dag.Is (.slice (some ⟨b, o, none⟩) n c), Dag.Is (.int .i64 (j : Int)), Dag.Is (.pointer (some ⟨b, o + j, none⟩)), Dag.Is (.int .i64 (p : Int)), Dag.Is (.bool true), Dag.Is (.bool true), Dag.Is (.int .u8 (t : Int)), Dag.Is (.bool false), Dag.Is (.bool false)]) (by kernel_rfl) (by kernel_rfl) (Dag.stable_list (by simp [Dag.Stable.is])) ?_ ?_
                · intro vs W hbW
                  simp only [Dag.allOps, List.take_succ_cons, List.take_zero, Dag.fill, Act.put, List.setIfInBounds_toArray, List.set_cons_succ, List.set_cons_zero, Dag.deps, Region.binds, Dag.list, Dag.Is, List.getD_cons_zero, List.getD_cons_succ, and_true, forall_const, Nat.reduceAdd, Region.wanted, reduceIte]
                  refine ⟨?_, ?_, ?_, ?_, ?_, ?_, ?_, ?_, ?_, ?_, ?_⟩
                  · (try intro hd); go_simp; (first | done | exact ⟨Below.refl _ _, rfl⟩ | exact Below.refl _ _)
                  · (try intro hd); go_simp; refine (HLT.out W).mono ?_; rintro e w' ⟨rfl, hb⟩; exact ⟨rfl, hb⟩
                  · (try intro hd); go_simp; (first | done | exact ⟨Below.refl _ _, rfl⟩ | exact Below.refl _ _)
                  · (try intro hd); go_simp; (first | done | exact ⟨Below.refl _ _, rfl⟩ | exact Below.refl _ _)
                  · (try intro hd); go_simp; (first | done | exact ⟨Below.refl _ _, rfl⟩ | exact Below.refl _ _)
                  · (try intro hd); have hz := keep_cell hbW hc2; go_simp; (first | done | exact ⟨Below.refl _ _, rfl⟩ | exact Below.refl _ _)
                  · (try intro hd); go_simp; (first | done | exact ⟨Below.refl _ _, rfl⟩ | exact Below.refl _ _)
                  · (try intro hd); go_simp; (first | done | exact ⟨Below.refl _ _, rfl⟩ | exact Below.refl _ _)
                  · (try intro hd); go_simp; (first | done | exact ⟨Below.refl _ _, rfl⟩ | exact Below.refl _ _)
                  · (try intro hd); go_simp; (first | done | exact ⟨Below.refl _ _, rfl⟩ | exact Below.refl _ _)
                  · (try intro hd); go_simp; (first | done | exact ⟨Below.refl _ _, rfl⟩ | exact Below.refl _ _)
                · intro vs W hbW hk
                  simp only [Dag.known, Dag.list, Dag.Is, List.getD_cons_zero, List.getD_cons_succ, and_true] at hk
                  obtain ⟨k0, k1, k2, k3, k4, k5, k6, k7, k8, k9, k10⟩ := hk
                  simp only [List.take_succ_cons, List.take_zero, List.drop_succ_cons, List.drop_zero, Dag.fill, Act.put, List.setIfInBounds_toArray, List.set_cons_succ, List.set_cons_zero, Nat.reduceAdd, k0, k1, k2, k3, k4, k5, k6, k7, k8, k9, k10]
                  clear k0 k1 k2 k3 k4 k5 k6 k7 k8 k9 k10
                  go_wp2_with fail
                  exact ⟨⟨t + 1, A6, m6, c6, by first | rfl | (congr 1), by omega, rfl, hide (by rw [HOWN.out]; exact hrb6.out.on hbW), hide (own_on ho6.out hbW), hide (below_then hb6.out hbW), hide (keep_cell hbW hc2)⟩, by simp [intOf]; omega⟩
              · have hpp : (letZ y == (p : Int)) = false := by rw [beq_eq_false_iff_ne]; exact hz
                generalize letZ y = lz at *
                clear hs hz
                go_wp2_with fail
                refine Dag.wp_region_facts 11 (Dag.list [Dag.Is (.int .u8 (t : Int)), Dag.Is (.int .i64 lz), Dag.Is (.slice (some ⟨b, o, none⟩) n c), Dag.Is (.int .i64 (j : Int)), Dag.Is (.pointer (some ⟨b, o + j, none⟩)), Dag.Is (.int .i64 (p : Int)), Dag.Is (.bool false), Dag.Is (.bool false), Dag.Any, Dag.Any, Dag.Is (.bool false)]) (by kernel_rfl) (by kernel_rfl) (Dag.stable_list (by simp [Dag.Stable.is, Dag.Stable.any])) ?_ ?_
                · intro vs W hbW
                  simp only [Dag.allOps, List.take_succ_cons, List.take_zero, Dag.fill, Act.put, List.setIfInBounds_toArray, List.set_cons_succ, List.set_cons_zero, Dag.deps, Region.binds, Dag.list, Dag.Is, Dag.Any, List.getD_cons_zero, List.getD_cons_succ, and_true, forall_const, Nat.reduceAdd, Region.wanted, reduceIte]
                  refine ⟨?_, ?_, ?_, ?_, ?_, ?_, ?_, ?_, ?_, ?_, ?_⟩
                  · (try intro hd); go_simp; (first | done | exact ⟨Below.refl _ _, rfl⟩ | exact Below.refl _ _)
                  · (try intro hd); go_simp; refine (HLT.out W).mono ?_; rintro e w' ⟨rfl, hb⟩; exact ⟨rfl, hb⟩
                  · (try intro hd); go_simp; (first | done | exact ⟨Below.refl _ _, rfl⟩ | exact Below.refl _ _)
                  · (try intro hd); go_simp; (first | done | exact ⟨Below.refl _ _, rfl⟩ | exact Below.refl _ _)
                  · (try intro hd); go_simp; (first | done | exact ⟨Below.refl _ _, rfl⟩ | exact Below.refl _ _)
                  · (try intro hd); have hz := keep_cell hbW hc2; go_simp; (first | done | exact ⟨Below.refl _ _, rfl⟩ | exact Below.refl _ _)
                  · (try intro hd); go_simp; (first | done | exact ⟨Below.refl _ _, rfl⟩ | exact Below.refl _ _)
                  · (try intro hd); go_simp; (first | done | exact ⟨Below.refl _ _, rfl⟩ | exact Below.refl _ _)
                  · (try intro hd); go_simp; (first | done | exact ⟨Below.refl _ _, rfl⟩ | exact Below.refl _ _)
                  · (try intro hd); go_simp; (first | done | exact ⟨Below.refl _ _, rfl⟩ | exact Below.refl _ _)
                  · (try intro hd); go_simp; (first | done | exact ⟨Below.refl _ _, rfl⟩ | exact Below.refl _ _)
                · intro vs W hbW hk
                  simp only [Dag.known, Dag.list, Dag.Is, Dag.Any, List.getD_cons_zero, List.getD_cons_succ, and_true] at hk
                  obtain ⟨k0, k1, k2, k3, k4, k5, k6, k7, k8, k9, k10⟩ := hk
                  simp only [List.take_succ_cons, List.take_zero, List.drop_succ_cons, List.drop_zero, Dag.fill, Act.put, List.setIfInBounds_toArray, List.set_cons_succ, List.set_cons_zero, Nat.reduceAdd, k0, k1, k2, k3, k4, k5, k6, k7, k10]
                  clear k0 k1 k2 k3 k4 k5 k6 k7 k10
                  go_wp2_with fail
                  exact ⟨⟨t + 1, A6, m6, c6, by first | rfl | (congr 1), by omega, rfl, hide (by rw [HOWN.out]; exact hrb6.out.on hbW), hide (own_on ho6.out hbW), hide (below_then hb6.out hbW), hide (keep_cell hbW hc2)⟩, by simp [intOf]; omega⟩
          · obtain rfl : t = 128 := by omega
            have HI := hide (show RB wr A6 m6 (Quo.item p) by rw [← own_end]; exact hrb6.out)
            have hm6 : m6 ≤ 6 := by rw [← HI.out.len]; exact Quo.item_six HPC.out
            obtain ⟨LEN, hLEN⟩ : ∃ LEN, LEN = (34 :: Quo.items (ps.take j)).length := ⟨_, rfl⟩
            have hlen : LEN ≤ 24001 := by
              have h1 : Utf.allCp (ps.take j) := fun q hq => HCP.out q (List.mem_of_mem_take hq)
              have h2 := items_len h1
              have h3 := encs_le _ h1
              rw [List.length_take] at h3
              rw [hLEN, List.length_cons]; omega
            rw [← hLEN] at ho6
            have HLEN := hide hLEN
            have hbs := hb6.out.size
            clear hLEN
            go_wp2_with (at_builtin; go_loud (refine wpList_append_reads rfl (.tmp 57) (.tmp 58) _ rfl w.heap.size 5 i0 (.int .u8 0) 1 1 Tryd.underlying29 hi hz0 hz1 hz2 rfl (by omega) u3 LEN (bytes (34 :: Quo.items (ps.take j))) rfl ho6.out wr.heap.size A6 m6 c6 (bytes (Quo.item p)) rfl HI.out bytes_one (by unfold maxLen; omega) (by omega) hbs ?_); intro v7 w7 hown7 hg7 hat7)
            have HB7 := hide (hb6.out.grown hg7 hbs fun k hk => (ho6.out.lt k hk).1)
            have HO7 := hide (show w7.ownsRow w.heap.size 5 1 v7 (34 :: Quo.items (ps.take (j + 1))).length (bytes (34 :: Quo.items (ps.take (j + 1)))) by
              rw [HTK.out, items_snoc, List.length_append, ← HLEN.out, HI.out.len, bytes_append]; exact hown7)
            clear hown7 hg7 hat7 hbs
            go_roundw
            case rel => exact ⟨j + 1, by go_num, by omega, HO7, HB7⟩
            case measure => simp [intOf]; omega
    · obtain rfl : j = n := by omega
      have HQ := hide (show (34 :: Quo.items (ps.take j)) ++ [34] = quoted ps by rw [List.take_of_length_le (by rw [HL.out]; exact Nat.le_refl _)]; rfl)
      obtain ⟨LEN, hLEN⟩ : ∃ LEN, LEN = (34 :: Quo.items (ps.take j)).length := ⟨_, rfl⟩
      have hlen : LEN ≤ 24001 := by
        have h1 : Utf.allCp (ps.take j) := fun q hq => HCP.out q (List.mem_of_mem_take hq)
        have h2 := items_len h1
        have h3 := encs_le _ h1
        rw [List.length_take] at h3
        rw [hLEN, List.length_cons]; omega
      rw [← hLEN] at ho
      have hbs := hb.out.size
      clear hLEN
      go_wp2_with (at_builtin; go_loud (refine wpList_append_reads rfl (.tmp 60) (.tmp 61) _ rfl w.heap.size 5 i0 (.int .u8 0) 1 1 Tryd.underlying29 hi hz0 hz1 hz2 rfl (by omega) u3 LEN (bytes (34 :: Quo.items (ps.take j))) rfl (ho.out.alloc _) (wr.heap.size + 1) (some ⟨wr.heap.size, 0, none⟩) 1 1 (bytes [34]) rfl (Reads.one _ _ _) bytes_one (by unfold maxLen; omega) (by omega) (by simp; omega) ?_); intro v7 w7 hown7 hg7 hat7; have HB7 := hide ((hb.out.alloc hbs _).grown hg7 (by simp; omega) fun k hk => (ho.out.lt k hk).1); rw [← bytes_append, HQ.out] at hown7; obtain ⟨A7, c7, rfl, _, _, hr7⟩ := own_slice hown7; have hcv := run_str (P := Tryd.prog) w7 29 9 5 A7 (LEN + 1) c7 (quoted ps) hr7 (by kernel_rfl) (by kernel_rfl) (by kernel_rfl); clear hr7 hown7 hg7 hat7)
      go_ret
      exact ⟨rfl, HB7.out⟩
end Go.Proofs.YtbnibiealnogdaaDoor
