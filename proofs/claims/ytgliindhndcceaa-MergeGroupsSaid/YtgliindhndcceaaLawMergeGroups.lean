/- Proved: davenportlaw15.MergeGroups returns true for every input: merging is associative, and equals sorting the concatenation. -/
import Derived.Test.YtgliindhndcceaaRows
import Derived.Test.YtgliindhndcceaaMgOpen
import Derived.Test.YtgliindhndcceaaMgLast
import Derived.Test.YtgliindhndcceaaMgConcat
import Derived.Test.YtgliindhndcceaaMgSame
import Derived.Test.YtgliindhndcceaaMgWakes
namespace Go.Proofs.Ytgliindhndcceaa.LawMergeGroups
open Go.ChangeShapes Go.WideShapes Go.ChangeAt Go.RowKit

/-- a place in a short row -/
theorem rem_nat (x : Int) (D : Int) (K : Nat) (hK : K ≤ 100) (hD : D = (K : Int) + 1) : ∃ f : Nat, f ≤ K ∧ wrap64 ((IntKind.u64.wrap x).tmod D) = (f : Int) := by
  subst hD
  have h0 := wrap_u64_nonneg x
  have h1 := Int.tmod_nonneg ((K : Int) + 1) h0
  have h2 := Int.tmod_lt_of_pos (IntKind.u64.wrap x) (show (0 : Int) < (K : Int) + 1 by omega)
  obtain ⟨y, hy⟩ : ∃ y, y = (IntKind.u64.wrap x).tmod ((K : Int) + 1) := ⟨_, rfl⟩
  rw [← hy] at h1 h2 ⊢
  refine ⟨y.toNat, by omega, ?_⟩
  unfold wrap64
  omega
theorem flat_app (a b : List Rw) : flat (a ++ b) = flat a ++ flat b := by simp [flat]
theorem rightAll_sub {L L2 : List Rw} (h : rightAll L = true) (hs : ∀ r ∈ L2, r ∈ L) : rightAll L2 = true := by
  unfold rightAll
  rw [List.all_eq_true]
  exact fun r hr => rightAll_at h r (hs r hr)
theorem split3 {L : List Rw} {f h : Nat} (hfh : f ≤ h) : L.take f ++ ((L.take h).drop f ++ L.drop h) = L := by
  have e1 : (L.take h).take f = L.take f := by rw [List.take_take, Nat.min_eq_left hfh]
  rw [← List.append_assoc, ← e1, List.take_append_drop, List.take_append_drop]
theorem parts_right {L : List Rw} {f h : Nat} {A : Option Addr} {n c : Nat} (hr : rightAll L = true) : rightAll (L.take f ++ [⟨A, n, c, srt (flat ((L.take h).drop f))⟩] ++ L.drop h) = true := by
  refine rightAll_yes fun p hp => ?_
  have hm := List.getElem_mem hp
  rcases List.mem_append.1 hm with hm | hm
  · rcases List.mem_append.1 hm with hm | hm
    · exact rightAll_at hr _ (List.mem_of_mem_take hm)
    · rw [List.mem_singleton.1 hm]
      exact srt_right (rightAll_may (rightAll_sub hr fun r hr => List.mem_of_mem_take (List.mem_of_mem_drop hr)))
  · exact rightAll_at hr _ (List.mem_of_mem_drop hm)
theorem parts_srt {L : List Rw} {f h : Nat} {A : Option Addr} {n c : Nat} (hfh : f ≤ h) : srt (flat (L.take f ++ [⟨A, n, c, srt (flat ((L.take h).drop f))⟩] ++ L.drop h)) = srt (flat L) := by
  have e : flat ([⟨A, n, c, srt (flat ((L.take h).drop f))⟩] : List Rw) = srt (flat ((L.take h).drop f)) := by simp [flat]
  rw [flat_app, flat_app, e, srt_group, ← flat_app, ← flat_app, List.append_assoc, split3 hfh]
theorem vals_one {L : List Rw} : ∀ u ∈ L.map Rw.val, u.oneCell' = true := by
  intro u hu
  obtain ⟨r, _, rfl⟩ := List.mem_map.1 hu
  rfl
set_option maxRecDepth 100000 in
set_option maxHeartbeats 16000000 in
theorem walk (A : Option Addr) (n c : Nat) (R : List Rw) (at_ to : Int) (w : World) (hA : Rows2 w w.heap.size A n c R) (_w1 : (Lit.int .i64 at_).wf = true) (_w2 : (Lit.int .i64 to).wf = true) :
    Calls Try.prog 9 #[.slice A n c, .int .i64 at_, .int .i64 to] w fun e w' => e = .returned (.bool true) ∧ Below w.heap.size w w' := by
  clear _w1 _w2
  obtain ⟨i0, hti, hz0, hz1, hz2⟩ := info_parts rows_info
  have HA := hide hA
  clear hA
  obtain ⟨N, hN⟩ : ∃ N, (if 12 < n then 12 else n) = N := ⟨_, rfl⟩
  obtain ⟨K, hK⟩ : ∃ K, (if 8 < n then 8 else n) = K := ⟨_, rfl⟩
  have hN1 := (cut_min hN).2.1
  have hK1 := (cut_min hK).2.1
  have f1 : (if (8 : Int) < (n : Int) then (8 : Int) else (n : Int)) = (K : Int) := by rw [← hK]; split <;> split <;> omega
  have hKN : K ≤ N := by rw [← hK, ← hN]; split <;> split <;> omega
  have f5 : (0 : Int) ≤ (K : Int) := by omega
  have HN := hide hN
  clear hN hK
  go_enter Try.func9, Try.ntmps9
  go_wp2_with fail
  refine Calls.mono (wakes_any _) ?_
  rintro e w1 ⟨rfl, hb1⟩
  have HB1 := hide hb1
  clear hb1
  go_wp2_with fail
  refine Calls.mono (some_any A n c N R _ (HA.out.on HB1.out) HN.out) ?_
  rintro e w2 ⟨A2, c2, L0, rfl, hown, hok, -, hb2⟩
  have HR2 := hide (Rows2.of_own hown fun r hr => (hok r hr).1)
  have HT2 := hide (HR2.out.take K hKN)
  have HA2 := hide (show c2 = 0 ∨ ∃ b, A2 = some ⟨b, 0, none⟩ by
    rcases hown.2 with ⟨hv, -⟩ | ⟨b, cap, cur, hv, -⟩
    · injection hv with h1 h2 h3; exact .inl h3
    · injection hv with h1 h2 h3; exact .inr ⟨b, h1⟩)
  have HLR := hide (fun r (hr : r ∈ L0.take K) => show r.row.length ≤ 60 by
    have hr := List.mem_of_mem_take hr
    rw [(HR2.out.ok r hr).len]
    exact (hok r hr).2)
  have HRN := hide (fun r (hr : r ∈ L0.take K) => show r.n ≤ 1000 by
    have hr := List.mem_of_mem_take hr
    exact Nat.le_trans (hok r hr).2 (by omega))
  have hKc : K ≤ c2 := Nat.le_trans hKN HR2.out.cap
  have f4 : (K : Int) ≤ (c2 : Int) := by omega
  have HB2 := hide (below_then HB1.out hb2)
  clear hown hok hb2 HB1 HR2
  obtain ⟨L, hL⟩ : ∃ L, L = L0.take K := ⟨_, rfl⟩
  rw [← hL] at HT2 HLR HRN
  clear hL
  have HFL := hide (show (flat L).length ≤ 480 by have := flat_len HLR.out; rw [HT2.out.len] at this; omega)
  have HTL := hide (Nat.le_trans (srt_len (flat L)) HFL.out)
  go_wp2_with fail
  refine Calls.mono (merge_any A2 K c2 L _ HT2.out (by omega)) ?_
  intro e w3 hM
  obtain ⟨M, q, mc, F, ML, rfl, hm, hb3, hF⟩ := hM.two HT2.out.srt_ok (Nat.le_trans HTL.out (by omega))
  have HT3 := hide (HT2.out.on hb3)
  have HM3 := hide hm
  have HB3 := hide (below_then HB2.out hb3)
  clear hM hm hb3 HB2 HT2
  rcases hF with ⟨rfl, -, rfl⟩ | ⟨rfl, hRA, hML⟩
  · go_wp2_with fail
    go_ret
    exact ⟨rfl, HB3.out⟩
  · rw [hML] at HM3
    have HRA := hide hRA
    have HSR := hide (srt_right (rightAll_may hRA))
    clear hRA hML
    obtain ⟨f, hf, e1⟩ := rem_nat at_ _ K (by omega) rfl
    obtain ⟨g, hg, e2⟩ := rem_nat to ((K : Int) - (f : Int) + 1) (K - f) (by omega) (by omega)
    obtain ⟨h, hh⟩ : ∃ h, h = f + g := ⟨_, rfl⟩
    have e3 : (f : Int) + (g : Int) = (h : Int) := by omega
    have hfh : f ≤ h := by omega
    have hhK : h ≤ K := by omega
    have f6 : (0 : Int) ≤ (f : Int) := by omega
    have f7 : (f : Int) ≤ (h : Int) := by omega
    have f8 : (h : Int) ≤ (K : Int) := by omega
    have f9 : (h : Int) ≤ (c2 : Int) := by omega
    have f10 : (f : Int) ≤ (K : Int) := by omega
    have f11 : (f : Int) ≤ (c2 : Int) := by omega
    have HML := hide (show (srt (flat ((L.take h).drop f))).length ≤ 480 from flat_srt_len (k := 60) (m := 8) (fun r hr => HLR.out r (List.mem_of_mem_take (List.mem_of_mem_drop hr))) (by
      have := HT3.out.len
      rw [List.length_drop, List.length_take]
      omega))
    have HMR := hide (show rightAll ((L.take h).drop f) = true from rightAll_sub HRA.out fun r hr => List.mem_of_mem_take (List.mem_of_mem_drop hr))
    have HFR := hide ((HT3.out.take h hhK).drop f hfh)
    clear hh hg
    by_cases h1 : c2 = f
    · subst h1
      obtain rfl : h = c2 := by omega
      rw [if_pos rfl, Nat.sub_self] at HFR
      have HDR : Hid (∀ W : World, Rows2 W W.heap.size A2 K h L → Rows2 W W.heap.size A2 0 (h - h) (L.drop h)) := hide (fun W h2 => by
        have := h2.drop h hhK
        rwa [if_pos rfl, show K - h = 0 by omega] at this)
      go_wp2_with fail
      refine Calls.mono (merge_any _ _ _ _ _ HFR.out (by omega)) ?_
      intro e w4 hM
      obtain ⟨GA, gn, gc, F, G, rfl, hg, hb4, hF⟩ := hM.two HFR.out.srt_ok (Nat.le_trans HML.out (by omega))
      rw [HMR.out] at hF
      rcases hF with ⟨-, hF, -⟩ | ⟨rfl, -, hG⟩
      · cases hF
      · rw [hG] at hg
        have HG4 := hide hg
        have HT4 := hide (HT3.out.on hb4)
        have HM4 := hide (HM3.out.on hb4)
        have HB4 := hide (below_then HB3.out hb4)
        clear hM hg hb4 hG HT3 HM3 HB3 HFR
        go_wp2_with (at_builtin; first
          | (refine wpList_append_reads rfl (.tmp 69) (.tmp 72) _ rfl w4.heap.size 22 i0 _ 1 24 Try.underlying35 hti hz0 hz1 hz2 rfl (by omega) (.slice none 0 0) 0 [] rfl (World.ownsRow_nil _ _ _ _) w4.heap.size _ h _ ((L.take h).map Rw.val) rfl (HT4.out.take h hf).cells vals_one (by unfold maxLen; omega) (by omega) (Nat.le_refl _) ?_; intro v5 w5 hown5 hg5 hat5
             have HB5 := hide (show Below w4.heap.size w4 w5 from (Below.refl _ _).grown hg5 (Nat.le_refl _) fun k hk => by cases hk)
             have HO5 := hide (show w5.ownsRow w4.heap.size 22 1 v5 h ((L.take h).map Rw.val) by simpa using hown5)
             clear hown5 hg5 hat5
             have hsz5 := HB5.out.size)
          | (refine wpList_append_reads rfl (.tmp 74) (.tmp 76) _ rfl w4.heap.size 22 i0 _ 1 24 Try.underlying35 hti hz0 hz1 hz2 rfl (by omega) v5 h ((L.take h).map Rw.val) rfl (HO5.out.alloc _) (w5.heap.size + 1) (some ⟨w5.heap.size, 0, none⟩) 1 1 [.slice GA gn gc] rfl (Reads.one _ _ _) (by intro u hu; simp at hu; subst hu; rfl) (by unfold maxLen; omega) (by omega) (Nat.le_trans hsz5 (below_alloc _ _).size) ?_; intro v6 w6 hown6 hg6 hat6
             have HB6 := hide (show Below w4.heap.size w4 w6 from (HB5.out.alloc hsz5 _).grown hg6 (Nat.le_trans hsz5 (below_alloc _ _).size) fun k hk => (HO5.out.lt k hk).1)
             have HO6 := hide (show w6.ownsRow w4.heap.size 22 1 v6 (h + 1) ((L.take h ++ [Rw.mk GA gn gc (srt (flat ((L.take h).drop h)))]).map Rw.val) by rw [List.map_append]; exact hown6)
             clear hown6 hg6 hat6 HO5 HB5 hsz5
             have hsz6 := HB6.out.size
             have HT6 := hide (HT4.out.on HB6.out))
          | (go_loud (refine wpList_append_reads rfl (.tmp 78) (.tmp 81) _ rfl w4.heap.size 22 i0 _ 1 24 Try.underlying35 hti hz0 hz1 hz2 rfl (by omega) v6 (h + 1) _ rfl HO6.out w6.heap.size _ _ _ ((L.drop h).map Rw.val) rfl (HDR.out _ HT6.out).cells vals_one (by unfold maxLen; omega) (by omega) hsz6 ?_; intro v7 w7 hown7 hg7 hat7)))
        have HB7 := hide (show Below w4.heap.size w4 w7 from HB6.out.grown hg7 hsz6 fun k hk => (HO6.out.lt k hk).1)
        have HG7 := hide (HG4.out.on HB7.out)
        have HT7 := hide (HT4.out.on HB7.out)
        have HM7 := hide (HM4.out.on HB7.out)
        have HB8 := hide (below_then HB4.out HB7.out)
        obtain ⟨A7, c7, rfl, hc7, hm7, hr7⟩ := own_slice hown7
        have HP7 := hide (show Rows2 w7 w7.heap.size A7 (h + 1 + 0) c7 (L.take h ++ [Rw.mk GA gn gc (srt (flat ((L.take h).drop h)))] ++ L.drop h) from ⟨by rw [List.map_append]; exact hr7, fun r hr => by
          rcases List.mem_append.1 hr with hr | hr
          · rcases List.mem_append.1 hr with hr | hr
            · exact HT7.out.ok r (List.mem_of_mem_take hr)
            · rw [List.mem_singleton.1 hr]; exact HG7.out
          · exact HT7.out.ok r (List.mem_of_mem_drop hr), hc7, hm7⟩)
        clear hown7 hg7 hat7 hc7 hm7 hr7 HB7 HG7 HT6 HO6 HB6 hsz6 HG4 HT4 HM4 HB4
        go_wp2_with fail
        refine Calls.mono (merge_any A7 (h + 1 + 0) c7 _ _ HP7.out (by omega)) ?_
        intro e w9 hM
        rw [parts_right HRA.out, parts_srt hfh] at hM
        obtain ⟨NA, nn, nc, F, NL, rfl, hnw, hb9, hF⟩ := hM.two HT7.out.srt_ok (Nat.le_trans HTL.out (by omega))
        rcases hF with ⟨-, hF, -⟩ | ⟨rfl, -, hNL⟩
        · cases hF
        · rw [hNL] at hnw
          have HN9 := hide hnw
          have HT9 := hide (HT7.out.on hb9)
          have HM9 := hide (HM7.out.on hb9)
          have HB9 := hide (below_then HB8.out hb9)
          clear hM hnw hb9 hNL HP7 HT7 HM7 HB8
          go_wp2_with fail
          refine Calls.mono (concat_any _ K _ L _ HT9.out (by omega) HRN.out) ?_
          rintro e w10 ⟨CA, cn, cc, rfl, hcr, hb10⟩
          have HC10 := hide hcr
          have HN10 := hide (HN9.out.on hb10)
          have HM10 := hide (HM9.out.on hb10)
          have HB10 := hide (below_then HB9.out hb10)
          have hcn : cn ≤ 480 := by rw [← HC10.out.len]; exact HFL.out
          clear hcr hb10 HN9 HT9 HM9 HB9
          go_wp2_with fail
          refine Calls.mono (sort_any CA cn cc (flat L) _ HC10.out (by omega)) ?_
          intro e w11 hS
          rw [rightAll_may HRA.out] at hS
          obtain ⟨SA, sn, sc, F, SL, rfl, hsr, hb11, hF⟩ := hS.two (fun x hx => HC10.out.ok x (srt_mem' hx)) (Nat.le_trans HTL.out (by omega))
          rcases hF with ⟨-, hF, -⟩ | ⟨rfl, -, hSL⟩
          · cases hF
          · rw [hSL] at hsr
            have HS11 := hide hsr
            have HN11 := hide (HN10.out.on hb11)
            have HM11 := hide (HM10.out.on hb11)
            have HB11 := hide (below_then HB10.out hb11)
            clear hS hsr hb11 hSL HC10 HN10 HM10 HB10
            go_wp2_with fail
            refine Calls.mono (same_any _ _ _ _ _ _ _ _ _ HN11.out HM11.out) ?_
            rintro e w12 ⟨rfl, hb12⟩
            rw [same_refl]
            have HS12 := hide (HS11.out.on hb12)
            have HM12 := hide (HM11.out.on hb12)
            have HB12 := hide (below_then HB11.out hb12)
            clear hb12 HS11 HN11 HM11 HB11
            go_wp2_with fail
            refine Calls.mono (same_any _ _ _ _ _ _ _ _ _ HS12.out HM12.out) ?_
            rintro e w13 ⟨rfl, hb13⟩
            rw [same_refl]
            have HM13 := hide (HM12.out.on hb13)
            have HB13 := hide (below_then HB12.out hb13)
            clear hb13 HS12 HM12 HB12
            go_wp2_with fail
            refine Calls.mono (check_any _ _ _ _ _ HM13.out) ?_
            rintro e w14 ⟨rfl, hb14⟩
            rw [rightE_yes HSR.out]
            have HB14 := hide (below_then HB13.out hb14)
            clear hb14 HM13 HB13
            go_wp2_with fail
            go_ret
            exact ⟨rfl, HB14.out⟩
    · obtain ⟨b, rfl⟩ := HA2.out.resolve_left (by omega)
      have ef : Option.map (fun x : Addr => x.add f) (some ⟨b, 0, none⟩) = some ⟨b, f, none⟩ := by
        simp [Addr.add]
        exact fun h => h.symm
      have eh : Option.map (fun x : Addr => x.add h) (some ⟨b, 0, none⟩) = some ⟨b, h, none⟩ := by
        simp [Addr.add]
        exact fun h => h.symm
      rw [if_neg h1, ef] at HFR
      by_cases h2 : c2 = h
      · obtain rfl : h = c2 := h2.symm
        have HDR : Hid (∀ W : World, Rows2 W W.heap.size (some ⟨b, 0, none⟩) K h L → Rows2 W W.heap.size (some ⟨b, 0, none⟩) 0 (h - h) (L.drop h)) := hide (fun W h2 => by
          have := h2.drop h hhK
          rwa [if_pos rfl, show K - h = 0 by omega] at this)
        clear ef eh h2
        go_wp2_with fail
        refine Calls.mono (merge_any _ _ _ _ _ HFR.out (by omega)) ?_
        intro e w4 hM
        obtain ⟨GA, gn, gc, F, G, rfl, hg, hb4, hF⟩ := hM.two HFR.out.srt_ok (Nat.le_trans HML.out (by omega))
        rw [HMR.out] at hF
        rcases hF with ⟨-, hF, -⟩ | ⟨rfl, -, hG⟩
        · cases hF
        · rw [hG] at hg
          have HG4 := hide hg
          have HT4 := hide (HT3.out.on hb4)
          have HM4 := hide (HM3.out.on hb4)
          have HB4 := hide (below_then HB3.out hb4)
          clear hM hg hb4 hG HT3 HM3 HB3 HFR
          go_wp2_with (at_builtin; first
            | (refine wpList_append_reads rfl (.tmp 69) (.tmp 72) _ rfl w4.heap.size 22 i0 _ 1 24 Try.underlying35 hti hz0 hz1 hz2 rfl (by omega) (.slice none 0 0) 0 [] rfl (World.ownsRow_nil _ _ _ _) w4.heap.size _ f _ ((L.take f).map Rw.val) rfl (HT4.out.take f hf).cells vals_one (by unfold maxLen; omega) (by omega) (Nat.le_refl _) ?_; intro v5 w5 hown5 hg5 hat5
               have HB5 := hide (show Below w4.heap.size w4 w5 from (Below.refl _ _).grown hg5 (Nat.le_refl _) fun k hk => by cases hk)
               have HO5 := hide (show w5.ownsRow w4.heap.size 22 1 v5 f ((L.take f).map Rw.val) by simpa using hown5)
               clear hown5 hg5 hat5
               have hsz5 := HB5.out.size)
            | (refine wpList_append_reads rfl (.tmp 74) (.tmp 76) _ rfl w4.heap.size 22 i0 _ 1 24 Try.underlying35 hti hz0 hz1 hz2 rfl (by omega) v5 f ((L.take f).map Rw.val) rfl (HO5.out.alloc _) (w5.heap.size + 1) (some ⟨w5.heap.size, 0, none⟩) 1 1 [.slice GA gn gc] rfl (Reads.one _ _ _) (by intro u hu; simp at hu; subst hu; rfl) (by unfold maxLen; omega) (by omega) (Nat.le_trans hsz5 (below_alloc _ _).size) ?_; intro v6 w6 hown6 hg6 hat6
               have HB6 := hide (show Below w4.heap.size w4 w6 from (HB5.out.alloc hsz5 _).grown hg6 (Nat.le_trans hsz5 (below_alloc _ _).size) fun k hk => (HO5.out.lt k hk).1)
               have HO6 := hide (show w6.ownsRow w4.heap.size 22 1 v6 (f + 1) ((L.take f ++ [Rw.mk GA gn gc (srt (flat ((L.take h).drop f)))]).map Rw.val) by rw [List.map_append]; exact hown6)
               clear hown6 hg6 hat6 HO5 HB5 hsz5
               have hsz6 := HB6.out.size
               have HT6 := hide (HT4.out.on HB6.out))
            | (go_loud (refine wpList_append_reads rfl (.tmp 78) (.tmp 81) _ rfl w4.heap.size 22 i0 _ 1 24 Try.underlying35 hti hz0 hz1 hz2 rfl (by omega) v6 (f + 1) _ rfl HO6.out w6.heap.size _ _ _ ((L.drop h).map Rw.val) rfl (HDR.out _ HT6.out).cells vals_one (by unfold maxLen; omega) (by omega) hsz6 ?_; intro v7 w7 hown7 hg7 hat7)))
          have HB7 := hide (show Below w4.heap.size w4 w7 from HB6.out.grown hg7 hsz6 fun k hk => (HO6.out.lt k hk).1)
          have HG7 := hide (HG4.out.on HB7.out)
          have HT7 := hide (HT4.out.on HB7.out)
          have HM7 := hide (HM4.out.on HB7.out)
          have HB8 := hide (below_then HB4.out HB7.out)
          obtain ⟨A7, c7, rfl, hc7, hm7, hr7⟩ := own_slice hown7
          have HP7 := hide (show Rows2 w7 w7.heap.size A7 (f + 1 + 0) c7 (L.take f ++ [Rw.mk GA gn gc (srt (flat ((L.take h).drop f)))] ++ L.drop h) from ⟨by rw [List.map_append]; exact hr7, fun r hr => by
            rcases List.mem_append.1 hr with hr | hr
            · rcases List.mem_append.1 hr with hr | hr
              · exact HT7.out.ok r (List.mem_of_mem_take hr)
              · rw [List.mem_singleton.1 hr]; exact HG7.out
            · exact HT7.out.ok r (List.mem_of_mem_drop hr), hc7, hm7⟩)
          clear hown7 hg7 hat7 hc7 hm7 hr7 HB7 HG7 HT6 HO6 HB6 hsz6 HG4 HT4 HM4 HB4
          go_wp2_with fail
          refine Calls.mono (merge_any A7 (f + 1 + 0) c7 _ _ HP7.out (by omega)) ?_
          intro e w9 hM
          rw [parts_right HRA.out, parts_srt hfh] at hM
          obtain ⟨NA, nn, nc, F, NL, rfl, hnw, hb9, hF⟩ := hM.two HT7.out.srt_ok (Nat.le_trans HTL.out (by omega))
          rcases hF with ⟨-, hF, -⟩ | ⟨rfl, -, hNL⟩
          · cases hF
          · rw [hNL] at hnw
            have HN9 := hide hnw
            have HT9 := hide (HT7.out.on hb9)
            have HM9 := hide (HM7.out.on hb9)
            have HB9 := hide (below_then HB8.out hb9)
            clear hM hnw hb9 hNL HP7 HT7 HM7 HB8
            go_wp2_with fail
            refine Calls.mono (concat_any _ K _ L _ HT9.out (by omega) HRN.out) ?_
            rintro e w10 ⟨CA, cn, cc, rfl, hcr, hb10⟩
            have HC10 := hide hcr
            have HN10 := hide (HN9.out.on hb10)
            have HM10 := hide (HM9.out.on hb10)
            have HB10 := hide (below_then HB9.out hb10)
            have hcn : cn ≤ 480 := by rw [← HC10.out.len]; exact HFL.out
            clear hcr hb10 HN9 HT9 HM9 HB9
            go_wp2_with fail
            refine Calls.mono (sort_any CA cn cc (flat L) _ HC10.out (by omega)) ?_
            intro e w11 hS
            rw [rightAll_may HRA.out] at hS
            obtain ⟨SA, sn, sc, F, SL, rfl, hsr, hb11, hF⟩ := hS.two (fun x hx => HC10.out.ok x (srt_mem' hx)) (Nat.le_trans HTL.out (by omega))
            rcases hF with ⟨-, hF, -⟩ | ⟨rfl, -, hSL⟩
            · cases hF
            · rw [hSL] at hsr
              have HS11 := hide hsr
              have HN11 := hide (HN10.out.on hb11)
              have HM11 := hide (HM10.out.on hb11)
              have HB11 := hide (below_then HB10.out hb11)
              clear hS hsr hb11 hSL HC10 HN10 HM10 HB10
              go_wp2_with fail
              refine Calls.mono (same_any _ _ _ _ _ _ _ _ _ HN11.out HM11.out) ?_
              rintro e w12 ⟨rfl, hb12⟩
              rw [same_refl]
              have HS12 := hide (HS11.out.on hb12)
              have HM12 := hide (HM11.out.on hb12)
              have HB12 := hide (below_then HB11.out hb12)
              clear hb12 HS11 HN11 HM11 HB11
              go_wp2_with fail
              refine Calls.mono (same_any _ _ _ _ _ _ _ _ _ HS12.out HM12.out) ?_
              rintro e w13 ⟨rfl, hb13⟩
              rw [same_refl]
              have HM13 := hide (HM12.out.on hb13)
              have HB13 := hide (below_then HB12.out hb13)
              clear hb13 HS12 HM12 HB12
              go_wp2_with fail
              refine Calls.mono (check_any _ _ _ _ _ HM13.out) ?_
              rintro e w14 ⟨rfl, hb14⟩
              rw [rightE_yes HSR.out]
              have HB14 := hide (below_then HB13.out hb14)
              clear hb14 HM13 HB13
              go_wp2_with fail
              go_ret
              exact ⟨rfl, HB14.out⟩
      · have HDR : Hid (∀ W : World, Rows2 W W.heap.size (some ⟨b, 0, none⟩) K c2 L → Rows2 W W.heap.size (some ⟨b, h, none⟩) (K - h) (c2 - h) (L.drop h)) := hide (fun W h3 => by
          have := h3.drop h hhK
          rwa [if_neg h2, eh] at this)
        clear ef eh
        go_wp2_with fail
        refine Calls.mono (merge_any _ _ _ _ _ HFR.out (by omega)) ?_
        intro e w4 hM
        obtain ⟨GA, gn, gc, F, G, rfl, hg, hb4, hF⟩ := hM.two HFR.out.srt_ok (Nat.le_trans HML.out (by omega))
        rw [HMR.out] at hF
        rcases hF with ⟨-, hF, -⟩ | ⟨rfl, -, hG⟩
        · cases hF
        · rw [hG] at hg
          have HG4 := hide hg
          have HT4 := hide (HT3.out.on hb4)
          have HM4 := hide (HM3.out.on hb4)
          have HB4 := hide (below_then HB3.out hb4)
          clear hM hg hb4 hG HT3 HM3 HB3 HFR
          go_wp2_with (at_builtin; first
            | (refine wpList_append_reads rfl (.tmp 69) (.tmp 72) _ rfl w4.heap.size 22 i0 _ 1 24 Try.underlying35 hti hz0 hz1 hz2 rfl (by omega) (.slice none 0 0) 0 [] rfl (World.ownsRow_nil _ _ _ _) w4.heap.size _ f _ ((L.take f).map Rw.val) rfl (HT4.out.take f hf).cells vals_one (by unfold maxLen; omega) (by omega) (Nat.le_refl _) ?_; intro v5 w5 hown5 hg5 hat5
               have HB5 := hide (show Below w4.heap.size w4 w5 from (Below.refl _ _).grown hg5 (Nat.le_refl _) fun k hk => by cases hk)
               have HO5 := hide (show w5.ownsRow w4.heap.size 22 1 v5 f ((L.take f).map Rw.val) by simpa using hown5)
               clear hown5 hg5 hat5
               have hsz5 := HB5.out.size)
            | (refine wpList_append_reads rfl (.tmp 74) (.tmp 76) _ rfl w4.heap.size 22 i0 _ 1 24 Try.underlying35 hti hz0 hz1 hz2 rfl (by omega) v5 f ((L.take f).map Rw.val) rfl (HO5.out.alloc _) (w5.heap.size + 1) (some ⟨w5.heap.size, 0, none⟩) 1 1 [.slice GA gn gc] rfl (Reads.one _ _ _) (by intro u hu; simp at hu; subst hu; rfl) (by unfold maxLen; omega) (by omega) (Nat.le_trans hsz5 (below_alloc _ _).size) ?_; intro v6 w6 hown6 hg6 hat6
               have HB6 := hide (show Below w4.heap.size w4 w6 from (HB5.out.alloc hsz5 _).grown hg6 (Nat.le_trans hsz5 (below_alloc _ _).size) fun k hk => (HO5.out.lt k hk).1)
               have HO6 := hide (show w6.ownsRow w4.heap.size 22 1 v6 (f + 1) ((L.take f ++ [Rw.mk GA gn gc (srt (flat ((L.take h).drop f)))]).map Rw.val) by rw [List.map_append]; exact hown6)
               clear hown6 hg6 hat6 HO5 HB5 hsz5
               have hsz6 := HB6.out.size
               have HT6 := hide (HT4.out.on HB6.out))
            | (go_loud (refine wpList_append_reads rfl (.tmp 78) (.tmp 81) _ rfl w4.heap.size 22 i0 _ 1 24 Try.underlying35 hti hz0 hz1 hz2 rfl (by omega) v6 (f + 1) _ rfl HO6.out w6.heap.size _ _ _ ((L.drop h).map Rw.val) rfl (HDR.out _ HT6.out).cells vals_one (by unfold maxLen; omega) (by omega) hsz6 ?_; intro v7 w7 hown7 hg7 hat7)))
          have HB7 := hide (show Below w4.heap.size w4 w7 from HB6.out.grown hg7 hsz6 fun k hk => (HO6.out.lt k hk).1)
          have HG7 := hide (HG4.out.on HB7.out)
          have HT7 := hide (HT4.out.on HB7.out)
          have HM7 := hide (HM4.out.on HB7.out)
          have HB8 := hide (below_then HB4.out HB7.out)
          obtain ⟨A7, c7, rfl, hc7, hm7, hr7⟩ := own_slice hown7
          have HP7 := hide (show Rows2 w7 w7.heap.size A7 (f + 1 + (K - h)) c7 (L.take f ++ [Rw.mk GA gn gc (srt (flat ((L.take h).drop f)))] ++ L.drop h) from ⟨by rw [List.map_append]; exact hr7, fun r hr => by
            rcases List.mem_append.1 hr with hr | hr
            · rcases List.mem_append.1 hr with hr | hr
              · exact HT7.out.ok r (List.mem_of_mem_take hr)
              · rw [List.mem_singleton.1 hr]; exact HG7.out
            · exact HT7.out.ok r (List.mem_of_mem_drop hr), hc7, hm7⟩)
          clear hown7 hg7 hat7 hc7 hm7 hr7 HB7 HG7 HT6 HO6 HB6 hsz6 HG4 HT4 HM4 HB4
          go_wp2_with fail
          refine Calls.mono (merge_any A7 (f + 1 + (K - h)) c7 _ _ HP7.out (by omega)) ?_
          intro e w9 hM
          rw [parts_right HRA.out, parts_srt hfh] at hM
          obtain ⟨NA, nn, nc, F, NL, rfl, hnw, hb9, hF⟩ := hM.two HT7.out.srt_ok (Nat.le_trans HTL.out (by omega))
          rcases hF with ⟨-, hF, -⟩ | ⟨rfl, -, hNL⟩
          · cases hF
          · rw [hNL] at hnw
            have HN9 := hide hnw
            have HT9 := hide (HT7.out.on hb9)
            have HM9 := hide (HM7.out.on hb9)
            have HB9 := hide (below_then HB8.out hb9)
            clear hM hnw hb9 hNL HP7 HT7 HM7 HB8
            go_wp2_with fail
            refine Calls.mono (concat_any _ K _ L _ HT9.out (by omega) HRN.out) ?_
            rintro e w10 ⟨CA, cn, cc, rfl, hcr, hb10⟩
            have HC10 := hide hcr
            have HN10 := hide (HN9.out.on hb10)
            have HM10 := hide (HM9.out.on hb10)
            have HB10 := hide (below_then HB9.out hb10)
            have hcn : cn ≤ 480 := by rw [← HC10.out.len]; exact HFL.out
            clear hcr hb10 HN9 HT9 HM9 HB9
            go_wp2_with fail
            refine Calls.mono (sort_any CA cn cc (flat L) _ HC10.out (by omega)) ?_
            intro e w11 hS
            rw [rightAll_may HRA.out] at hS
            obtain ⟨SA, sn, sc, F, SL, rfl, hsr, hb11, hF⟩ := hS.two (fun x hx => HC10.out.ok x (srt_mem' hx)) (Nat.le_trans HTL.out (by omega))
            rcases hF with ⟨-, hF, -⟩ | ⟨rfl, -, hSL⟩
            · cases hF
            · rw [hSL] at hsr
              have HS11 := hide hsr
              have HN11 := hide (HN10.out.on hb11)
              have HM11 := hide (HM10.out.on hb11)
              have HB11 := hide (below_then HB10.out hb11)
              clear hS hsr hb11 hSL HC10 HN10 HM10 HB10
              go_wp2_with fail
              refine Calls.mono (same_any _ _ _ _ _ _ _ _ _ HN11.out HM11.out) ?_
              rintro e w12 ⟨rfl, hb12⟩
              rw [same_refl]
              have HS12 := hide (HS11.out.on hb12)
              have HM12 := hide (HM11.out.on hb12)
              have HB12 := hide (below_then HB11.out hb12)
              clear hb12 HS11 HN11 HM11 HB11
              go_wp2_with fail
              refine Calls.mono (same_any _ _ _ _ _ _ _ _ _ HS12.out HM12.out) ?_
              rintro e w13 ⟨rfl, hb13⟩
              rw [same_refl]
              have HM13 := hide (HM12.out.on hb13)
              have HB13 := hide (below_then HB12.out hb13)
              clear hb13 HS12 HM12 HB12
              go_wp2_with fail
              refine Calls.mono (check_any _ _ _ _ _ HM13.out) ?_
              rintro e w14 ⟨rfl, hb14⟩
              rw [rightE_yes HSR.out]
              have HB14 := hide (below_then HB13.out hb14)
              clear hb14 HM13 HB13
              go_wp2_with fail
              go_ret
              exact ⟨rfl, HB14.out⟩
/-! ### the row's step, written by program after the guide's skeleton -/
theorem own : ownKnob Try.prog.godebug = none := by kernel_rfl
theorem laidOut : laidOutB Try.prog = true := by kernel_rfl
set_option maxRecDepth 100000 in
theorem lifted (os : Os) (started : os.Started) (H : Type) (enc : TypeId × Value → H) :
    ReturnsInHanded {} Try.checked os 9 .any (Rows.mergeGroupsSpec.pre6 enc Try.prog Try.f9 Rows.mergeGroupsRow.domain false) (Rows.mergeGroupsSpec.post enc Try.prog Try.f9 false true false false) := by
  refine returnsInHanded_of_change (C := Try.checked) own started (by kernel_rfl) Try.func9
    (ChangeSpec.witness6 (enc := enc) (C := Try.checked) false ⟨#[], #[.slice none 0 0, .int .i64 0, .int .i64 0], []⟩ 8 (by kernel_rfl) (by kernel_rfl) (by kernel_rfl) (by kernel_rfl)) ?_
  intro W base args ds gs before hval0 hW hcnd _
  have hval : ∀ (j : Nat) t v, Try.f9.params[j]? = some t → args[j]? = some v → Value.okWide Try.prog W .any base t v := hval0
  have hW' := hW
  obtain ⟨p, q, hA0, hV, rfl, hfz, hnd⟩ := hW
  have hA : DataW.TrodAll enc Try.prog W 0 (fun _ => true) true Try.f9.params.toList args.toList ds p := hA0
  rw [Try.params9] at hA hval
  obtain ⟨v0, vs0, d0, ds0, p0, q0, hargs, rfl, rfl, h0, r0⟩ := trodAll_cons hA
  obtain ⟨v1, vs1, d1, ds1, p1, q1, rfl, rfl, rfl, h1, r1⟩ := trodAll_cons r0
  obtain ⟨v2, vs2, d2, ds2, p2, q2, rfl, rfl, rfl, h2, r2⟩ := trodAll_cons r1
  obtain ⟨rfl, rfl, rfl⟩ := trodAll_nil r2
  obtain rfl : args = #[v0, v1, v2] := by cases args; simp_all
  obtain ⟨rfl, rfl⟩ := trodVars_none hV
  have k0 := h0
  have lt0 := trod_lt' k0
  obtain ⟨a0, n0, c0, l0, rfl, w0⟩ := arg_rows rfl (hval 0 35 v0 rfl rfl) h0
  obtain ⟨a1, rfl, rfl, rfl, w1⟩ := open_int Try.underlying3 (hval 1 3 v1 rfl rfl) h1
  obtain ⟨a2, rfl, rfl, rfl, w2⟩ := open_int Try.underlying3 (hval 2 3 v2 rfl rfl) h2
  clear hA0 hval0
  refine (walk a0 n0 c0 l0 a1 a2 W w0 w1 w2).mono fun e W' ⟨he, bel⟩ => ?_
  subst he
  exact ⟨_, rfl, _, _, _, [], _, [], hW', trodAll_mk1 (shut_bool Try.underlying4 _), (trodAll_cons_mk (Below.trod laidOut (by kernel_rfl) (of_decide_eq_true (by kernel_rfl)) k0 bel lt0) (trodAll_cons_mk (shut_int Try.underlying3 w1) (trodAll_cons_mk (shut_int Try.underlying3 w2) trodAll_mk0))), rfl, bel.frame _, fun h => by cases h⟩

theorem over : Rows.mergeGroupsRow.holds Try.pinned (OpenSpec.ofChange Rows.mergeGroupsSpec) :=
  OpenClaim.holds_of_wide 9 Try.f9 rfl rfl rfl rfl rfl rfl rfl ⟨rfl, rfl, rfl, rfl, rfl⟩ rfl rfl rfl rfl rfl (by kernel_rfl) Try.func9 (by kernel_rfl)
    (of_decide_eq_true (by kernel_rfl)) (by unfold Func.isWrapper; first | (rw [if_pos (by decide +kernel)]; kernel_rfl) | (rw [if_neg (by decide +kernel)]; exact ⟨rfl, rfl⟩))
    (fun os started H enc _ => lifted os started H enc)

theorem proved : Rows.MergeGroupsSaid := over
end Go.Proofs.Ytgliindhndcceaa.LawMergeGroups
