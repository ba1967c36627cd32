/- The walk of the reference's Begin: it answers what utf's decoding answers. -/
import Derived.Test.YtbnibiealnogdaaDoorUtfRef
import Derived.Test.YtbnibiealnogdaaDoorUtfBeginMath
import Derived.Test.YtbnibiealnogdaaDoorDag
import Derived.Deep.WholeRow
namespace Go.Proofs.YtbnibiealnogdaaDoor
open Go.RowKit

attribute [local go_sem] Dag.gives
/-- a row made behind `base`, known whole -/
def Dag.MadeSl (base : Nat) (cs : Array Value) (t : TypeId) : Value → World → Prop := fun v w => ∃ k, v = .slice (some ⟨k, 0, none⟩) cs.size cs.size ∧ base ≤ k ∧ k < w.heap.size ∧ w.heap[k]? = some (.cells cs t (0, 0))
theorem Dag.Stable.madeSl (base : Nat) (cs : Array Value) (t : TypeId) : Dag.Stable (Dag.MadeSl base cs t) := fun _ _ _ hb ⟨k, hv, hk, hlt, h⟩ => ⟨k, hv, hk, Nat.lt_of_lt_of_le hlt hb.size, by rw [hb.block k hlt]; exact h⟩
/-- a place in a row whose cell is known -/
def Dag.At (u : Value) : Value → World → Prop := fun v w => ∃ k o, v = .pointer (some ⟨k, o, none⟩) ∧ k < w.heap.size ∧ w.cell? ⟨k, o, none⟩ = some u
theorem Dag.Stable.at_ (u : Value) : Dag.Stable (Dag.At u) := fun _ _ _ hb ⟨k, o, hv, hk, h⟩ => ⟨k, o, hv, Nat.lt_of_lt_of_le hk hb.size, keep_cell hb h⟩
def decV (p : Nat × Nat) : Value := .tuple #[.int .i64 (p.1 : Int), .int .i64 (p.2 : Int)]
theorem mods_cell {n : Nat} (h1 : 1 < n) (h4 : n ≤ 4) : (#[Value.int .i64 1, .int .i64 1, .int .i64 32, .int .i64 16, .int .i64 8] : Array Value)[n]? = some (.int .i64 (Utf.modOf n : Nat)) := by
  obtain rfl | rfl | rfl : n = 2 ∨ n = 3 ∨ n = 4 := by omega
  · rfl
  · rfl
  · rfl
theorem mod_ne (m : Nat) : ¬ Utf.modOf m = 0 := by
  unfold Utf.modOf
  split
  · decide
  · split
    · decide
    · split <;> decide
theorem wrap_small {g : Nat} (h : g ≤ 255) : wrap64 (g : Int) = (g : Int) := by unfold wrap64; omega
theorem wrap_gather2 {g c : Nat} (h : g < 67108864) (hc : c < 256) : wrap64 ((g : Int) * 64 + (wrap64 (c : Int)).tmod 64) = (g : Int) * 64 + (c : Int) % 64 := by
  have h1 : wrap64 (c : Int) = (c : Int) := by unfold wrap64; omega
  rw [h1, Int.tmod_eq_emod_of_nonneg (by omega)]
  unfold wrap64; omega
theorem wrap_gather {g c : Nat} (h : g < 67108864) : wrap64 (wrap64 ((g : Int) * 64) + ((c : Int) % 64)) = ((g * 64 + c % 64 : Nat) : Int) := by unfold wrap64; omega
set_option maxRecDepth 100000 in
set_option maxHeartbeats 8000000 in
theorem rBegin_any (A : Option Addr) (n c : Nat) (l : List UInt8) (w : World) (hA0 : RB w A n l) (hn : n ≤ 1048576) (hn0 : 0 < n) :
    Calls Tryd.prog 32 #[.slice A n c] w fun e w' => e = .returned (decV (Utf.dec l)) ∧ Below w.heap.size w w' := by
  have HL := hide hA0.len
  have h0l : 0 < l.length := by rw [HL.out]; exact hn0
  obtain ⟨b, o, rfl, hbl, hc0⟩ := hA0.cell h0l
  have hA := hA0
  rw [Nat.add_zero] at hc0
  have HR := hide hA0
  have HX := hide (show (l.getD 0 0).toNat = (l[0]).toNat by rw [List.getD_eq_getElem?_getD, List.getElem?_eq_getElem h0l, Option.getD_some])
  have hx255 := (l[0]).toNat_lt
  generalize (l[0]).toNat = x at *
  clear hA0
  go_enter Tryd.func32, Tryd.ntmps32
  go_wp2
  go_loopw [4] (fun i wr => ∃ m : Nat, i = .int .i64 (m : Int) ∧ 1 ≤ m ∧ m ≤ 5 ∧ Hid ((Utf.dec l).2 = 0 ∨ m ≤ (Utf.dec l).2) ∧ Hid (Below w.heap.size w wr)) (fun i _ => 5 - (intOf i).toNat)
  case atStart => exact ⟨1, rfl, by omega, by omega, hide (by omega), hide (Below.refl _ _)⟩
  case round =>
    obtain ⟨m, rfl, hm1, hm5, hdec, hb⟩ := hrel
    by_cases hst : 4 < m ∨ n < m
    · have HD := hide (Utf.dec_end (l := l) (n := m) hdec.out (by rw [HL.out]; exact hst))
      rcases hst with hst | hst
      · have hm4 : ¬ (m : Int) ≤ 4 := by omega
        go_wp2_with fail
        go_ret2
        exact ⟨by rw [HD.out]; rfl, hb.out⟩
      · by_cases hm4 : m ≤ 4
        · have hm4' : (m : Int) ≤ 4 := by omega
          have hmn : ¬ (m : Int) ≤ (n : Int) := by omega
          go_wp2_with fail
          go_ret2
          exact ⟨by rw [HD.out]; rfl, hb.out⟩
        · have hm4' : ¬ (m : Int) ≤ 4 := by omega
          go_wp2_with fail
          go_ret2
          exact ⟨by rw [HD.out]; rfl, hb.out⟩
    · have hm4' : (m : Int) ≤ 4 := by omega
      have hmn : (m : Int) ≤ (n : Int) := by omega
      have hcw := keep_cell hb.out hc0
      have hn0' : (0 : Int) < (n : Int) := by omega
      obtain ⟨g, hgd⟩ : ∃ g, g = (l.getD 0 0).toNat % Utf.modOf m := ⟨_, rfl⟩
      by_cases hm : m = 1
      · have hm2 : ¬ (1 : Int) < (m : Int) := by omega
        obtain rfl : g = x := by rw [hgd, HX.out, hm]; show x % 256 = x; omega
        have HGD := hide hgd
        clear hm hgd
        go_wp2_with fail
        have hbx := hb.out
        have HG := hide (show ∀ i, i ≤ 4 → Utf.gather g ((l.take i).drop 1) < 67108864 from fun i hi => Utf.gather_lt (by rw [HGD.out]; exact Utf.mod_le255 l m) hi)
        have HGU := hide (show Utf.guess l m = Utf.gather g ((l.take m).drop 1) by rw [HGD.out]; rfl)
        go_loopw [5, 6] (fun cp i wr => ∃ j : Nat, 1 ≤ j ∧ j ≤ m ∧ i = .int .i64 (j : Int) ∧ cp = .int .i64 ((Utf.gather g ((l.take j).drop 1) : Nat) : Int) ∧ Hid (Below w.heap.size w wr)) (fun _ i _ => m - (intOf i).toNat)
        case atStart => exact ⟨1, Nat.le_refl _, by omega, rfl, by rw [Utf.gather_one], hide (by first | exact hbx | exact Below.refl _ _)⟩
        case round =>
          obtain ⟨j, hj1, hjm, rfl, rfl, hbj⟩ := hrel
          by_cases hlt : j < m
          · have hjl : j < l.length := by rw [HL.out]; omega
            obtain ⟨bj, oj, hj, _, hcj⟩ := hA.cell hjl
            obtain ⟨rfl, rfl⟩ : bj = b ∧ oj = o := by simpa using hj.symm
            have hcell := keep_cell hbj.out hcj
            have hst := Utf.gather_step g hj1 hjl
            have HST := hide hst
            have hj2 : (j : Int) < (m : Int) := by omega
            have hj3 : (j : Int) < (n : Int) := by omega
            have hj0 : (0 : Int) ≤ (j : Int) := by omega
            have hgl := HG.out j (by omega)
            have hwr := wrap_gather (g := Utf.gather g ((l.take j).drop 1)) (c := (l[j]).toNat) hgl
            have hxj := (l[j]).toNat_lt
            generalize (l[j]).toNat = xj at *
            generalize Utf.gather g ((l.take j).drop 1) = gj at *
            clear hst hcj hj
            go_wp2_with fail
            go_roundw
            case rel => exact ⟨j + 1, by omega, by omega, by go_num, by rw [HST.out]; first | rfl | (simp; done) | (simp; exact wrap_gather2 hgl hxj), hbj⟩
            case measure => simp [intOf]; omega
          · obtain rfl : j = m := by omega
            rw [← HGU.out]
            generalize hgu : Utf.guess l j = q at *
            go_wp2_with fail
            refine Calls.mono (rIs_any (q : Int) _) ?_
            rintro e w4 ⟨rfl, rfl⟩
            cases hcp : Utf.isCp (q : Int) with
            | false =>
              have HN := hide (Utf.hit_no (l := l) (n := j) (by unfold Utf.hit; rw [hgu, hcp]; rfl) (by omega) hdec.out)
              go_wp2_with fail
              go_roundw
              case rel => exact ⟨j + 1, by go_num, by omega, by omega, HN, hbj⟩
              case measure => simp [intOf]; omega
            | true =>
              have HCP := hide hcp
              go_wp2_with fail
              refine Calls.mono (rBytes_any q _ hcp) ?_
              rintro e w5 ⟨A5, c5, rfl, hr5, hc5, hm5, hb5⟩
              have HB5 := hide (below_then hbj.out hb5)
              by_cases hlen : (Utf.enc q).length = j
              · rw [hlen] at hr5 hc5 ⊢
                have hjj : ((j : Int) == (j : Int)) = true := by simp
                have HR5 := hide hr5
                go_wp2_with fail
                refine Calls.mono (rStarts_any (some ⟨b, o, none⟩) A5 n j c c5 l (Utf.enc q) _ (HR.out.on HB5.out) HR5.out (by omega) (by omega)) ?_
                rintro e w6 ⟨rfl, hb6⟩
                have HB6 := hide (below_then HB5.out hb6)
                by_cases hes : Utf.enc q = l.take j
                · have HD := hide (show Utf.dec l = (q, j) by
                    rw [← hgu]; exact Utf.hit_dec (by unfold Utf.hit; rw [hgu, HCP.out, hes]; simp) (by rw [HL.out]; omega))
                  rw [decide_eq_true hes]
                  go_wp2_with fail
                  go_ret2
                  exact ⟨by rw [HD.out]; rfl, HB6.out⟩
                · have HN := hide (Utf.hit_no (l := l) (n := j) (by unfold Utf.hit; rw [hgu, decide_eq_false hes, Bool.and_false]) (by omega) hdec.out)
                  rw [decide_eq_false hes]
                  go_wp2_with fail
                  go_roundw
                  case rel => exact ⟨j + 1, by go_num, by omega, by omega, HN, HB6⟩
                  case measure => simp [intOf]; omega
              · have hes : ¬ Utf.enc q = l.take j := fun h => hlen (by rw [h, List.length_take, HL.out]; omega)
                have HN := hide (Utf.hit_no (l := l) (n := j) (by unfold Utf.hit; rw [hgu, decide_eq_false hes, Bool.and_false]) (by omega) hdec.out)
                have hjj : (((Utf.enc q).length : Int) == (j : Int)) = false := by rw [beq_eq_false_iff_ne]; omega
                go_wp2_with fail
                go_roundw
                case rel => exact ⟨j + 1, by go_num, by omega, by omega, HN, HB5⟩
                case measure => simp [intOf]; omega
      · have hm2 : (1 : Int) < (m : Int) := by omega
        have hmod := mods_cell (n := m) (by omega) (by omega)
        have hwx : IntKind.i64.wrap (x : Int) = (x : Int) := by rw [IntKind.wrap_i64]; omega
        have hm5' : (m : Int) < 5 := by omega
        have hm0 : ¬ Utf.modOf m = 0 := mod_ne m
        have hgx : ((x : Int)).tmod (Utf.modOf m : Nat) = (g : Int) := by rw [hgd, HX.out]; rfl
        have hwg' : wrap64 (g : Int) = (g : Int) := wrap_small (by rw [hgd, HX.out]; exact Nat.le_trans (Nat.mod_le _ _) (by omega))
        have HGD := hide hgd
        clear hgd
        go_wp2_with fail
        refine Dag.wp_region_facts 9 (Dag.list [Dag.Is (.slice (some ⟨b, o, none⟩) n c), Dag.Is (.pointer (some ⟨b, o, none⟩)), Dag.Is (.int .u8 (x : Int)), Dag.Is (.int .i64 (x : Int)), Dag.MadeSl wr.heap.size #[.int .i64 1, .int .i64 1, .int .i64 32, .int .i64 16, .int .i64 8] 3, Dag.Is (.int .i64 (m : Int)), Dag.At (.int .i64 (Utf.modOf m : Nat)), Dag.Is (.int .i64 (Utf.modOf m : Nat)), Dag.Is (.int .i64 (g : Int))]) (by kernel_rfl) (by kernel_rfl) (Dag.stable_list (by simp [Dag.Stable.is, Dag.Stable.madeSl, Dag.Stable.at_])) ?_ ?_
        · intro vs W hbW
          simp only [Dag.allOps, List.take_succ_cons, List.take_zero, Dag.fill, Act.put, List.setIfInBounds_toArray, List.set_cons_succ, List.set_cons_zero, Dag.deps, Region.binds, Dag.list, Dag.Is, List.getD_cons_zero, List.getD_cons_succ, and_true, forall_const, Nat.reduceAdd, Region.wanted, reduceIte]
          refine ⟨?_, ?_, ?_, ?_, ?_, ?_, ?_, ?_, ?_⟩
          · (try intro hd); go_simp; (first | done | exact ⟨Below.refl _ _, rfl⟩ | exact Below.refl _ _)
          · (try intro hd); go_simp; (first | done | exact ⟨Below.refl _ _, rfl⟩ | exact Below.refl _ _)
          · (try intro hd); have hz := keep_cell hbW hcw; go_simp; (first | done | exact ⟨Below.refl _ _, rfl⟩ | exact Below.refl _ _)
          · (try intro hd); go_simp; (first | done | exact ⟨Below.refl _ _, rfl⟩ | exact Below.refl _ _)
          · (try intro hd); go_simp; exact ⟨below_alloc _ _, W.heap.size, rfl, hbW.size, by simp, heap_alloc_last _ _⟩
          · (try intro hd); go_simp; (first | done | exact ⟨Below.refl _ _, rfl⟩ | exact Below.refl _ _)
          · (try intro hd); obtain ⟨⟨k, hv, hkb, hkl, hk⟩, _⟩ := hd; have hck := cell_of_row _ _ m _ _ _ hk; go_simp; exact ⟨Below.refl _ _, k, m, rfl, hkl, by rw [hck]; exact hmod⟩
          · (try intro hd); obtain ⟨k, oo, hv, hkl, hck⟩ := hd; go_simp; (first | done | exact ⟨Below.refl _ _, rfl⟩ | exact Below.refl _ _)
          · (try intro hd); go_simp; (first | done | exact ⟨Below.refl _ _, rfl⟩ | exact Below.refl _ _)
        · intro vs W hbW hk
          simp only [Dag.known, Dag.list, Dag.Is, List.getD_cons_zero, List.getD_cons_succ, and_true] at hk
          obtain ⟨k0, k1, k2, k3, k4, k5, k6, k7, k8⟩ := hk
          simp only [List.take_succ_cons, List.take_zero, List.drop_succ_cons, List.drop_zero, Dag.fill, Act.put, List.setIfInBounds_toArray, List.set_cons_succ, List.set_cons_zero, Nat.reduceAdd, k0, k1, k2, k3, k5, k7, k8]
          clear k0 k1 k2 k3 k5 k7 k8
          have hbx := below_then hb.out hbW
          go_wp2_with fail
          have HG := hide (show ∀ i, i ≤ 4 → Utf.gather g ((l.take i).drop 1) < 67108864 from fun i hi => Utf.gather_lt (by rw [HGD.out]; exact Utf.mod_le255 l m) hi)
          have HGU := hide (show Utf.guess l m = Utf.gather g ((l.take m).drop 1) by rw [HGD.out]; rfl)
          go_loopw [5, 6] (fun cp i wr => ∃ j : Nat, 1 ≤ j ∧ j ≤ m ∧ i = .int .i64 (j : Int) ∧ cp = .int .i64 ((Utf.gather g ((l.take j).drop 1) : Nat) : Int) ∧ Hid (Below w.heap.size w wr)) (fun _ i _ => m - (intOf i).toNat)
          case atStart => exact ⟨1, Nat.le_refl _, by omega, rfl, by rw [Utf.gather_one], hide (by first | exact hbx | exact Below.refl _ _)⟩
          case round =>
            obtain ⟨j, hj1, hjm, rfl, rfl, hbj⟩ := hrel
            by_cases hlt : j < m
            · have hjl : j < l.length := by rw [HL.out]; omega
              obtain ⟨bj, oj, hj, _, hcj⟩ := hA.cell hjl
              obtain ⟨rfl, rfl⟩ : bj = b ∧ oj = o := by simpa using hj.symm
              have hcell := keep_cell hbj.out hcj
              have hst := Utf.gather_step g hj1 hjl
              have HST := hide hst
              have hj2 : (j : Int) < (m : Int) := by omega
              have hj3 : (j : Int) < (n : Int) := by omega
              have hj0 : (0 : Int) ≤ (j : Int) := by omega
              have hgl := HG.out j (by omega)
              have hwr := wrap_gather (g := Utf.gather g ((l.take j).drop 1)) (c := (l[j]).toNat) hgl
              have hxj := (l[j]).toNat_lt
              generalize (l[j]).toNat = xj at *
              generalize Utf.gather g ((l.take j).drop 1) = gj at *
              clear hst hcj hj
              go_wp2_with fail
              go_roundw
              case rel => exact ⟨j + 1, by omega, by omega, by go_num, by rw [HST.out]; first | rfl | (simp; done) | (simp; exact wrap_gather2 hgl hxj), hbj⟩
              case measure => simp [intOf]; omega
            · obtain rfl : j = m := by omega
              rw [← HGU.out]
              generalize hgu : Utf.guess l j = q at *
              go_wp2_with fail
              refine Calls.mono (rIs_any (q : Int) _) ?_
              rintro e w4 ⟨rfl, rfl⟩
              cases hcp : Utf.isCp (q : Int) with
              | false =>
                have HN := hide (Utf.hit_no (l := l) (n := j) (by unfold Utf.hit; rw [hgu, hcp]; rfl) (by omega) hdec.out)
                go_wp2_with fail
                go_roundw
                case rel => exact ⟨j + 1, by go_num, by omega, by omega, HN, hbj⟩
                case measure => simp [intOf]; omega
              | true =>
                have HCP := hide hcp
                go_wp2_with fail
                refine Calls.mono (rBytes_any q _ hcp) ?_
                rintro e w5 ⟨A5, c5, rfl, hr5, hc5, hm5, hb5⟩
                have HB5 := hide (below_then hbj.out hb5)
                by_cases hlen : (Utf.enc q).length = j
                · rw [hlen] at hr5 hc5 ⊢
                  have hjj : ((j : Int) == (j : Int)) = true := by simp
                  have HR5 := hide hr5
                  go_wp2_with fail
                  refine Calls.mono (rStarts_any (some ⟨b, o, none⟩) A5 n j c c5 l (Utf.enc q) _ (HR.out.on HB5.out) HR5.out (by omega) (by omega)) ?_
                  rintro e w6 ⟨rfl, hb6⟩
                  have HB6 := hide (below_then HB5.out hb6)
                  by_cases hes : Utf.enc q = l.take j
                  · have HD := hide (show Utf.dec l = (q, j) by
                      rw [← hgu]; exact Utf.hit_dec (by unfold Utf.hit; rw [hgu, HCP.out, hes]; simp) (by rw [HL.out]; omega))
                    rw [decide_eq_true hes]
                    go_wp2_with fail
                    go_ret2
                    exact ⟨by rw [HD.out]; rfl, HB6.out⟩
                  · have HN := hide (Utf.hit_no (l := l) (n := j) (by unfold Utf.hit; rw [hgu, decide_eq_false hes, Bool.and_false]) (by omega) hdec.out)
                    rw [decide_eq_false hes]
                    go_wp2_with fail
                    go_roundw
                    case rel => exact ⟨j + 1, by go_num, by omega, by omega, HN, HB6⟩
                    case measure => simp [intOf]; omega
                · have hes : ¬ Utf.enc q = l.take j := fun h => hlen (by rw [h, List.length_take, HL.out]; omega)
                  have HN := hide (Utf.hit_no (l := l) (n := j) (by unfold Utf.hit; rw [hgu, decide_eq_false hes, Bool.and_false]) (by omega) hdec.out)
                  have hjj : (((Utf.enc q).length : Int) == (j : Int)) = false := by rw [beq_eq_false_iff_ne]; omega
                  go_wp2_with fail
                  go_roundw
                  case rel => exact ⟨j + 1, by go_num, by omega, by omega, HN, HB5⟩
                  case measure => simp [intOf]; omega
end Go.Proofs.YtbnibiealnogdaaDoor
