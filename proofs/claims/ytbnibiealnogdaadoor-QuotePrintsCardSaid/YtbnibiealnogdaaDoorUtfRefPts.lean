/- The walks of the reference's Points and Text. -/
import Derived.Test.YtbnibiealnogdaaDoorUtfBegin
import Derived.Test.YtbnibiealnogdaaDoorUtfList
import Derived.Test.YtbnibiealnogdaaDoorUtfRef
namespace Go.Proofs.YtbnibiealnogdaaDoor
open Go.RowKit

/-- what the reference's Points answers -/
def RPts (l : List UInt8) (w : World) (e : Ending) (w' : World) : Prop :=
  Below w.heap.size w w' ∧ if (Utf.scan l).2 = l.length then ∃ A c, e = .returned (.tuple #[.slice A (Utf.scan l).1.length c, .int .i64 0, .bool true]) ∧ RI w' A (Utf.scan l).1.length (zs (Utf.scan l).1) ∧ (Utf.scan l).1.length ≤ c ∧ c ≤ maxLen
    else e = .returned (.tuple #[.slice none 0 0, .int .i64 ((Utf.scan l).2 : Int), .bool false])
set_option maxHeartbeats 4000000 in
theorem rPoints_any (A : Option Addr) (n c : Nat) (l : List UInt8) (w : World) (hA : RB w A n l) (hnc : n ≤ c) (hn : n ≤ 100000) :
    Calls Tryd.prog 12 #[.slice A n c] w (RPts l w) := by
  obtain ⟨i0, hi, hz0, hz1, hz2⟩ := info_parts i64_info
  have HL := hide hA.len
  have HRB := hide hA
  have HC := hide hnc
  have HN := hide hn
  clear hA hnc
  go_enter Tryd.func12, Tryd.ntmps12
  go_wp2_with fail
  go_loopw [5, 6] (fun a i wr => ∃ (j : Nat) (ps : List Nat), i = .int .i64 (j : Int) ∧ j ≤ n ∧ ps.length ≤ j ∧ Hid (Utf.scan l = (ps ++ (Utf.scan (l.drop j)).1, j + (Utf.scan (l.drop j)).2)) ∧ Hid (wr.ownsRow w.heap.size 3 1 a ps.length (ints (zs ps))) ∧ Hid (Below w.heap.size w wr)) (fun _ i _ => n - (intOf i).toNat)
  case atStart => exact ⟨0, [], rfl, Nat.zero_le _, Nat.le_refl _, hide (by rw [List.drop_zero]; simp), hide (World.ownsRow_nil _ _ _ _), hide (Below.refl _ _)⟩
  case round =>
    obtain ⟨j, ps, rfl, hj, hpj, hsc, ho, hb⟩ := hrel
    by_cases hlt : j < n
    · obtain ⟨b, o, rfl, _, hcx⟩ := HRB.out.cell (k := j) (by rw [HL.out]; exact hlt)
      clear hcx
      have hc0 := HC.out
      have hck : ¬ c = j := by omega
      have hj0 : (0 : Int) ≤ (j : Int) := by omega
      have hj1 : (j : Int) ≤ (n : Int) := by omega
      have hj2 : (j : Int) < (n : Int) := by omega
      have HR := hide ((HRB.out.on hb.out).behind hlt)
      clear hc0
      go_wp2_with fail
      refine Calls.mono (rBegin_any _ (n - j) (c - j) (l.drop j) _ HR.out (by omega) (by omega)) ?_
      rintro e w2 ⟨rfl, hb2⟩
      cases hd : Utf.dec (l.drop j) with
      | mk p m =>
        have hsz := dec_size (l.drop j)
        rw [hd, List.length_drop, HL.out] at hsz
        simp only at hsz
        by_cases hm : m = 0
        · subst hm
          have hf := scan_at hsc.out (by rw [hd])
          have HF := hide hf
          have HNE := hide (show ¬ (Utf.scan l).2 = l.length by rw [hf, HL.out]; simp only; omega)
          have HBF := hide (below_then hb.out hb2)
          clear hd hsz hf
          unfold decV
          dsimp only
          go_wp2_with fail
          go_ret3
          refine ⟨HBF.out, ?_⟩
          rw [if_neg HNE.out, HF.out]
          rfl
        · have hne := ne_zero hm
          have HSC := hide (scan_on hsc.out hd hm)
          have hw := wr_add (j := j) (m := m) (by omega)
          have HW := hide hw
          have HM := hide (show 0 < m ∧ j + m ≤ n by omega)
          have HO2 := hide (own_on ho.out hb2)
          have HB2 := hide (below_then hb.out hb2)
          have hpn : ps.length ≤ 100000 := by omega
          have hbs := HB2.out.size
          clear hd hsz hm
          unfold decV
          dsimp only
          go_wp2_with (at_builtin; go_loud (refine wpList_append_reads rfl (.tmp 23) (.tmp 25) _ rfl w.heap.size 3 i0 (.int .i64 0) 1 8 Tryd.underlying26 hi hz0 hz1 hz2 rfl (by omega) u5 ps.length (ints (zs ps)) rfl (HO2.out.alloc _) (w2.heap.size + 1) (some ⟨w2.heap.size, 0, none⟩) 1 1 [.int .i64 (p : Int)] rfl (Reads.one _ _ _) (by intro u hu; simp at hu; subst hu; rfl) (by unfold maxLen; omega) (by omega) (by simp; omega) ?_); intro v3 w3 hown3 hg3 hat3)
          have HB3 := hide ((HB2.out.alloc hbs _).grown hg3 (by simp; omega) fun j hj => (HO2.out.lt j hj).1)
          have HO3 := hide hown3
          clear hown3 hg3 hat3 hbs
          go_roundw
          case rel => exact ⟨j + m, ps ++ [p], by first | rfl | congr 1, HM.out.2, by rw [List.length_append]; have := HM.out.1; simp only [List.length_cons, List.length_nil]; omega, HSC, hide (by rw [List.length_append, zs_snoc]; exact HO3.out), HB3⟩
          case measure => rw [HW.out]; exact meas HM.out
    · obtain rfl : j = n := by omega
      have hf := scan_at hsc.out (by rw [List.drop_eq_nil_of_le (by rw [HL.out]; exact Nat.le_refl _)]; rfl)
      have HF := hide hf
      have HEQ := hide (show (Utf.scan l).2 = l.length by rw [hf, HL.out])
      obtain ⟨A5, c5, rfl, hc5, hm5, hr5⟩ := own_slice ho.out
      have HR5 := hide (And.intro hr5 (And.intro hc5 hm5))
      clear hf hc5 hm5 hr5
      go_wp2_with fail
      go_ret3
      refine ⟨hb.out, ?_⟩
      rw [if_pos HEQ.out, HF.out]
      exact ⟨A5, c5, rfl, HR5.out.1, HR5.out.2.1, HR5.out.2.2⟩
/-- what the reference's Text answers -/
def rTextV (x : List Int) : Value := if x.all Utf.isCp = true then .tuple #[.string (str (Utf.encs (x.map Int.toNat))), .bool true] else .tuple #[.string (ByteArray.mk #[]), .bool false]
theorem rtext_no {x : List Int} {j : Nat} (hj : j < x.length) (h : ¬ Utf.isCp x[j] = true) : rTextV x = .tuple #[.string (ByteArray.mk #[]), .bool false] :=
  if_neg fun ha => h (List.all_eq_true.1 ha _ (List.getElem_mem hj))
theorem rtext_yes {x : List Int} {ps : List Nat} (h : x = zs ps) (hc : Utf.allCp ps) : rTextV x = .tuple #[.string (str (Utf.encs ps)), .bool true] := by
  subst h
  have h1 : (zs ps).all Utf.isCp = true := by
    rw [List.all_eq_true]
    intro z hz
    obtain ⟨p, hp, rfl⟩ := List.mem_map.1 hz
    exact hc p hp
  have h2 := zs_toNat ps
  unfold rTextV
  rw [if_pos h1, h2]
set_option maxHeartbeats 4000000 in
theorem rText_any (A : Option Addr) (n c : Nat) (x : List Int) (w : World) (hA : RI w A n x) (hn : n ≤ 1000) :
    Calls Tryd.prog 22 #[.slice A n c] w fun e w' => e = .returned (rTextV x) ∧ Below w.heap.size w w' := by
  obtain ⟨i0, hi, hz0, hz1, hz2⟩ := info_parts u8_info
  have HL := hide hA.len
  have HA := hide hA
  have HN := hide hn
  clear hA
  go_enter Tryd.func22, Tryd.ntmps22
  go_wp2_with fail
  go_loopw [4, 5] (fun a i wr => ∃ (j : Nat) (ps : List Nat), i = .int .i64 (j : Int) ∧ j ≤ n ∧ ps.length = j ∧ Hid (x.take j = zs ps ∧ Utf.allCp ps) ∧ Hid (wr.ownsRow w.heap.size 5 1 a (Utf.encs ps).length (bytes (Utf.encs ps))) ∧ Hid (Below w.heap.size w wr)) (fun _ i _ => n - (intOf i).toNat)
  case atStart => exact ⟨0, [], rfl, Nat.zero_le _, rfl, hide ⟨by simp [zs], fun p hp => by cases hp⟩, hide (World.ownsRow_nil _ _ _ _), hide (Below.refl _ _)⟩
  case round =>
    obtain ⟨j, ps, rfl, hj, hpj, hx, ho, hb⟩ := hrel
    by_cases hlt : j < n
    · have hjl : j < x.length := by rw [HL.out]; exact hlt
      obtain ⟨b, o, rfl, _, hc⟩ := (HA.out.on hb.out).cell hjl
      have hj0 : (0 : Int) ≤ (j : Int) := by omega
      have hj1 : (j : Int) < (n : Int) := by omega
      by_cases hcp : Utf.isCp x[j] = true
      · have HX2 : Hid (∃ p : Nat, x[j] = (p : Int) ∧ Utf.isCp (p : Int) = true ∧ x.take (j + 1) = zs (ps ++ [p])) := hide (by
          have h0 := Utf.isCp_iff.1 hcp
          refine ⟨x[j].toNat, by omega, by rw [Int.toNat_of_nonneg h0.1]; exact hcp, ?_⟩
          rw [List.take_succ_eq_append_getElem hjl, hx.out.1]
          unfold zs
          rw [List.map_append, List.map_cons, List.map_nil, Int.toNat_of_nonneg h0.1])
        obtain ⟨p, hp1, hp2, hp3⟩ := HX2.out
        rw [hp1] at hc
        have HP := hide (And.intro hp2 hp3)
        have HE := hide (encs_le ps hx.out.2)
        clear hcp hp1 hp2 hp3 HX2
        go_wp2_with fail
        refine Calls.mono (rIs_any (p : Int) _) ?_
        rintro e w4 ⟨rfl, rfl⟩
        rw [HP.out.1]
        go_wp2_with fail
        refine Calls.mono (rBytes_any p _ HP.out.1) ?_
        rintro e w5 ⟨A5, c5, rfl, hr5, hc5, hm55, hb5⟩
        have hlen := Utf.enc_len HP.out.1
        have hm4 := Utf.sz_le (p : Int)
        obtain ⟨m, hm⟩ : ∃ m, m = (Utf.enc p).length := ⟨_, rfl⟩
        rw [← hm] at hr5 hc5 hlen ⊢
        have HM := hide hm
        have hm5 : m ≤ 4 := by omega
        have HR5 := hide hr5
        have HB5 := hide (below_then hb.out hb5)
        have HO5 := hide (own_on ho.out hb5)
        have hbs := HB5.out.size
        have hle : (Utf.encs ps).length ≤ 4000 := by have := HE.out; omega
        clear hr5 hc5 hm55 hb5 hlen hm4 hm hc
        go_wp2_with (at_builtin; go_loud (refine wpList_append_reads rfl (.tmp 18) (.tmp 23) _ rfl w.heap.size 5 i0 (.int .u8 0) 1 1 Tryd.underlying29 hi hz0 hz1 hz2 rfl (by omega) u4 (Utf.encs ps).length (bytes (Utf.encs ps)) rfl HO5.out w5.heap.size A5 m c5 (bytes (Utf.enc p)) rfl HR5.out bytes_one (by unfold maxLen; omega) (by omega) hbs ?_); intro v3 w3 hown3 hg3 hat3)
        have HB3 := hide (HB5.out.grown hg3 hbs fun j hj => (HO5.out.lt j hj).1)
        have HO3 := hide hown3
        clear hown3 hg3 hat3 hbs
        go_roundw
        case rel =>
          refine ⟨j + 1, ps ++ [p], by go_num, by omega, by rw [List.length_append, hpj]; rfl, hide ⟨HP.out.2, fun q hq => ?_⟩, hide ?_, HB3⟩
          · rcases List.mem_append.1 hq with h | h
            · exact hx.out.2 q h
            · rw [List.mem_singleton] at h; rw [h]; exact HP.out.1
          · rw [Utf.encs_append, show Utf.encs [p] = Utf.enc p by rw [Utf.encs_cons, Utf.encs_nil, List.append_nil], List.length_append, ← HM.out, bytes_append]; exact HO3.out
        case measure => simp [intOf]; omega
      · have HF := hide (rtext_no hjl hcp)
        have hcf : Utf.isCp x[j] = false := by simpa using hcp
        clear hcp
        generalize x[j] = cp at *
        have HCF := hide hcf
        clear hcf
        go_wp2_with fail
        refine Calls.mono (rIs_any cp _) ?_
        rintro e w4 ⟨rfl, rfl⟩
        rw [HCF.out]
        go_wp2_with fail
        go_ret2
        exact ⟨by rw [HF.out]; rfl, hb.out⟩
    · obtain rfl : j = n := by omega
      have hxx : x = zs ps := by have := hx.out.1; rwa [List.take_of_length_le (by rw [HL.out]; exact Nat.le_refl _)] at this
      have HF := hide (rtext_yes hxx hx.out.2)
      obtain ⟨A2, c2, rfl, hc2, hm2, hr2⟩ := own_slice ho.out
      have hcv := run_str (P := Tryd.prog) wr 29 9 5 A2 (Utf.encs ps).length c2 (Utf.encs ps) hr2 (by kernel_rfl) (by kernel_rfl) (by kernel_rfl)
      clear hxx hr2
      generalize str (Utf.encs ps) = S at *
      go_wp2_with fail
      go_ret2
      exact ⟨by rw [HF.out]; rfl, hb.out⟩
end Go.Proofs.YtbnibiealnogdaaDoor
