/- Proved: davenportlaw01.UtfBack returns true for every input: Next and Points return the code points that Put has written, in order. The card ties the package variable that the walk reads to the program's text. -/
import Derived.Test.YtheoadempenpaaaDoorRows
import Derived.Test.YtheoadempenpaaaDoorCards
import Derived.Test.YtheoadempenpaaaDoorTie
import Derived.Test.YtheoadempenpaaaDoorOpen
import Derived.Test.YtheoadempenpaaaDoorUtfLaid
import Derived.Test.YtheoadempenpaaaDoorUtfWakes
import Derived.SevenTiedAt
namespace Go.Proofs.YtheoadempenpaaaDoor.LawUtfBack
open Go.ChangeShapes Go.WideShapes Go.ChangeAt Go.RowKit
open Go.ChangeMaps (open_string shut_string)

theorem rows_apart {w : World} {b1 b2 : Nat} {e1 e2 : TypeId} {s1 s2 n1 n2 : Nat} {v1 v2 : Value} {x1 x2 : List Value} (h1 : w.ownsRow b1 e1 s1 v1 n1 x1) (h2 : w.ownsRow b2 e2 s2 v2 n2 x2) (hne : e1 ≠ e2) :
    v1.ownBlock = none ∨ v1.ownBlock ≠ v2.ownBlock := by
  rcases h1.2 with ⟨rfl, _⟩ | ⟨g, cap, cur, rfl, _, hg, _⟩
  · exact .inl rfl
  · right
    intro he
    rcases h2.2 with ⟨rfl, _⟩ | ⟨g', cap', cur', rfl, _, hg', _⟩
    · cases he
    · simp only [Value.ownBlock] at he
      obtain rfl : g = g' := by simpa using he
      rw [hg] at hg'
      injection hg' with hg'
      injection hg' with _ he2
      exact hne he2
theorem encs_drop : ∀ (ps : List Nat) (i : Nat), (Utf.encs ps).drop (Utf.encs (ps.take i)).length = Utf.encs (ps.drop i) := by
  intro ps i
  have h : Utf.encs ps = Utf.encs (ps.take i) ++ Utf.encs (ps.drop i) := by rw [← Utf.encs_append, List.take_append_drop]
  rw [h, List.drop_left]
theorem encs_at {ps : List Nat} (hc : Utf.allCp ps) {i : Nat} (hi : i < ps.length) : nextAt (Utf.encs ps) ((Utf.encs (ps.take i)).length : Int) = ((ps[i] : Int), ((Utf.encs (ps.take i)).length : Int) + (Utf.sz (ps[i] : Int) : Int), 0) ∧
    (Utf.encs (ps.take (i + 1))).length = (Utf.encs (ps.take i)).length + Utf.sz (ps[i] : Int) ∧ (Utf.encs (ps.take i)).length + Utf.sz (ps[i] : Int) ≤ (Utf.encs ps).length := by
  have hcp := hc ps[i] (List.getElem_mem hi)
  have hd : (Utf.encs ps).drop (Utf.encs (ps.take i)).length = Utf.enc ps[i] ++ Utf.encs (ps.drop (i + 1)) := by
    rw [encs_drop, List.drop_eq_getElem_cons hi, Utf.encs_cons]
  have hl := Utf.enc_len hcp
  have hp := Utf.enc_pos ps[i]
  have hlen := congrArg List.length hd
  rw [List.length_drop, List.length_append, hl] at hlen
  have hs := Utf.sz_pos.2 hcp
  have hD : (Utf.dec ((Utf.encs ps).drop (Utf.encs (ps.take i)).length)) = (ps[i], Utf.sz (ps[i] : Int)) := by rw [hd, Utf.dec_enc hcp, hl]
  refine ⟨?_, ?_, by omega⟩
  · unfold nextAt
    rw [if_neg (by omega), if_neg (by omega), Int.toNat_natCast, hD, if_neg (by simp only; omega)]
  · rw [List.take_succ_eq_append_getElem hi, Utf.encs_append, List.length_append, Utf.encs_cons, Utf.encs_nil, List.append_nil, hl]
theorem wr_at {a s : Nat} (h : a + s ≤ 1000) : wrap64 ((a : Int) + (s : Int)) = (a : Int) + (s : Int) := by unfold wrap64; omega
set_option maxHeartbeats 8000000 in
theorem walk (A : Option Addr) (n c : Nat) (x : List Int) (w : World) (hA : ArgInts .i64 w A n c x) (hg : Gl w) :
    Calls Tryd.prog 3 #[.slice A n c] w fun e w' => e = .returned (.bool true) ∧ Below w.heap.size w w' := by
  obtain ⟨i0, hti, hz0, hz1, hz2⟩ := info_parts i64_info
  obtain ⟨hr, hnc, hc, _⟩ := hA
  have HR := hide (show RI w A n x from hr)
  have HL := hide (RI.len (show RI w A n x from hr))
  have HG := hide hg
  have HC := hide (And.intro hnc hc)
  clear hr hnc hc hg
  go_enter Tryd.func3, Tryd.ntmps3
  go_wp2_with fail
  refine Calls.mono (wakes_any _ HG.out) ?_
  rintro e w1 ⟨rfl, hb1⟩
  have HB1 := hide hb1
  have HR1 := hide (HR.out.on hb1)
  have HCM := HC.out.2
  clear hb1
  go_wp2_with fail
  go_loopw [2, 3, 4, 24] (fun r b cs i wr => ∃ (j : Nat) (ps : List Nat), r = .bool false ∧ i = .int .i64 (j : Int) ∧ j ≤ 60 ∧ j ≤ n ∧ ps.length ≤ j ∧ Hid (Utf.allCp ps) ∧ Hid (wr.ownsRow w1.heap.size 5 1 b (Utf.encs ps).length (bytes (Utf.encs ps))) ∧ Hid (wr.ownsRow w1.heap.size 3 1 cs ps.length (ints (zs ps))) ∧ Hid (Below w1.heap.size w1 wr)) (fun _ _ _ i _ => 60 - (intOf i).toNat)
  case atStart => exact ⟨0, [], rfl, rfl, by omega, Nat.zero_le _, Nat.le_refl _, hide (fun p hp => by cases hp), hide (World.ownsRow_nil _ _ _ _), hide (World.ownsRow_nil _ _ _ _), hide (Below.refl _ _)⟩
  case round =>
    obtain ⟨j, ps, rfl, rfl, hj60, hj, hps, hcp, hrb, hrc, hb⟩ := hrel
    by_cases hlt : j < n
    · have hjl : j < x.length := by rw [HL.out]; exact hlt
      obtain ⟨b, o, rfl, _, hcell⟩ := (HR1.out.on hb.out).cell hjl
      have hj0 : (0 : Int) ≤ (j : Int) := by omega
      have hj1 : (j : Int) < (n : Int) := by omega
      generalize x[j] = cp at *
      by_cases h60 : j = 60
      · have ht60 : ((j : Int) == 60) = true := by rw [beq_iff_eq]; omega
        clear h60
        have HPS := hide (And.intro hps hcp.out)
        have hk60 : ps.length ≤ 60 := by omega
        have hel := encs_le ps hcp.out
        obtain ⟨A3, c3, rfl, hc3, hm3, hr3⟩ := own_slice hrb.out
        obtain ⟨A4, c4, rfl, hc4, hm4, hr4⟩ := own_slice hrc.out
        have HRB : Hid (RB wr A3 (Utf.encs ps).length (Utf.encs ps)) := hide hr3
        have HRC : Hid (RI wr A4 ps.length (zs ps)) := hide hr4
        have HC34 := hide (And.intro hc3 hm3)
        obtain ⟨nb, hnb⟩ : ∃ nb, nb = (Utf.encs ps).length := ⟨_, rfl⟩
        obtain ⟨k, hk⟩ : ∃ k, k = ps.length := ⟨_, rfl⟩
        rw [← hnb] at HRB HC34 hel ⊢
        rw [← hk] at HRC hk60 hel ⊢
        have HNB := hide hnb
        have HK := hide hk
        have hnb4 : nb ≤ 240 := by omega
        have HBW := hide hb.out
        clear hc3 hm3 hr3 hc4 hm4 hr4 hrb hrc hps hcp hnb hk hel hb
        go_wp2_with fail
        go_loopw [9, 49] (fun a i wr2 => ∃ j : Nat, i = .int .i64 (j : Int) ∧ j ≤ k ∧ a = .int .i64 ((Utf.encs (ps.take j)).length : Nat) ∧ Hid (Below wr.heap.size wr wr2)) (fun _ i _ => k - (intOf i).toNat)
        case atStart => exact ⟨0, rfl, Nat.zero_le _, rfl, hide (Below.refl _ _)⟩
        case round =>
          obtain ⟨j, rfl, hj, rfl, hb2⟩ := hrel
          by_cases hlt : j < k
          · have hjl : j < (zs ps).length := by rw [zs_len, ← HK.out]; exact hlt
            have hjp : j < ps.length := by rw [← HK.out]; exact hlt
            obtain ⟨b5, o5, rfl, _, hcell⟩ := (HRC.out.on hb2.out).cell hjl
            have hz : (zs ps)[j] = (ps[j] : Int) := by simp [zs]
            rw [hz] at hcell
            obtain ⟨e1, e2, e3⟩ := encs_at HPS.out.2 hjp
            have HE2 := hide e2
            have hj0 : (0 : Int) ≤ (j : Int) := by omega
            have hj1 : (j : Int) < (k : Int) := by omega
            have HE1 := hide e1
            rw [← HNB.out] at e3
            have hw := wr_at (a := (Utf.encs (ps.take j)).length) (s := Utf.sz (ps[j] : Int)) (by omega)
            have HW := hide hw
            generalize (Utf.encs (ps.take j)).length = a at *
            generalize hcpj : ps[j] = p at *
            clear hz e1 e2 hjl hcpj
            go_wp2_with fail
            refine Calls.mono (Next_any A3 nb c3 (Utf.encs ps) (a : Int) _ (HRB.out.on hb2.out) HC34.out.1 (by omega) (HG.out.on (below_then HB1.out (below_then HBW.out hb2.out)))) ?_
            rintro e w5 ⟨rfl, hb5⟩
            rw [HE1.out]
            have HB5 := hide (below_then hb2.out hb5)
            clear hb5
            unfold nextAtV
            dsimp only
            go_wp2_with fail
            refine Calls.mono (Size_any (p : Int) _) ?_
            rintro e w6 ⟨rfl, rfl⟩
            go_wp2_with fail
            go_roundw
            case rel => exact ⟨j + 1, by go_num, by omega, by rw [HE2.out]; first | rfl | congr 1, HB5⟩
            case measure => simp [intOf]; omega
          · obtain rfl : j = k := by omega
            have hfull : (Utf.encs (ps.take j)).length = nb := by rw [HNB.out, List.take_of_length_le (by rw [HK.out]; exact Nat.le_refl _)]
            rw [hfull]
            have HR5 := hide (HRB.out.on hb2.out)
            have HC5 := hide (HRC.out.on hb2.out)
            have HB5 := hide (below_then HBW.out hb2.out)
            have hcv : ∀ W5 : World, Below wr.heap.size wr W5 → (convert 24 9 (.slice A3 nb c3)).run Tryd.prog W5 = .ok (.string (str (Utf.encs ps))) W5 := fun W5 hbb => run_str (P := Tryd.prog) W5 24 9 5 A3 nb c3 _ (HR5.out.on hbb) (by kernel_rfl) (by kernel_rfl) (by kernel_rfl)
            have hcv0 := hcv wr (Below.refl _ _)
            have hnn : ((nb : Int) == (nb : Int)) = true := by simp
            have HNN := hide hnn
            clear hfull hnn hb2
            go_wp2_with fail
            refine Calls.mono (Points_any (Utf.encs ps) _ (by rw [← HNB.out]; omega) (HG.out.on (below_then HB1.out HB5.out))) ?_
            rintro e w6 ⟨hb6, he⟩
            rw [Utf.scan_text ps HPS.out.2, if_pos rfl] at he
            obtain ⟨A6, c6, rfl, hr6, hc6, hm6⟩ := he
            dsimp only at hr6 ⊢
            rw [← HK.out] at hr6 ⊢
            have HI6 := hide hr6
            have HB6 := hide (below_then HB5.out hb6)
            have HC6 := hide (HC5.out.on hb6)
            have HR6 := hide (HR5.out.on hb6)
            clear hb6 hr6 hc6 hm6 hcv hcv0
            go_wp2_with fail
            refine Calls.mono (Text_any A4 j c4 (zs ps) _ HC6.out (by omega)) ?_
            rintro e w7 ⟨rfl, hb7⟩
            rw [text_yes rfl HPS.out.2]
            have HI7 := hide (HI6.out.on hb7)
            have HC7 := hide (HC6.out.on hb7)
            have HB7 := hide (below_then HB6.out hb7)
            have HR7 := hide (HR6.out.on hb7)
            clear hb7 HI6 HC6 HB6 HR6
            have hnn := HNN.out
            go_wp2_with fail
            refine Calls.mono (equal_ints A6 A4 j j c6 c4 (zs ps) (zs ps) _ HI7.out HC7.out (by omega) (by omega)) ?_
            rintro e w8 ⟨rfl, hb8⟩
            rw [decide_eq_true rfl]
            have hcv8 := run_str (P := Tryd.prog) w8 24 9 5 A3 nb c3 _ (HR7.out.on hb8) (by kernel_rfl) (by kernel_rfl) (by kernel_rfl)
            generalize str (Utf.encs ps) = S at *
            go_wp2_with fail
            go_ret
            exact ⟨by first | rfl | simp, below_then HB1.out (below_then HB7.out hb8)⟩
      · have ht60 : ((j : Int) == 60) = false := by rw [beq_eq_false_iff_ne]; omega
        have hel := encs_le ps hcp.out
        obtain ⟨A3, c3, rfl, hc3, hm3, hr3⟩ := own_slice hrb.out
        have HRB : Hid (RB wr A3 (Utf.encs ps).length (Utf.encs ps)) := hide hr3
        have HO3 := hrb
        clear hc3 hm3 hr3
        go_wp2_with fail
        refine Calls.mono (Put_any A3 (Utf.encs ps).length c3 cp (Utf.encs ps) _ HRB.out (by omega)) ?_
        rintro e w5 ⟨hb5, he⟩
        have HB5 := hide (below_then hb.out hb5)
        have HC5 := hide (own_on hrc.out hb5)
        cases hcpb : Utf.isCp cp with
        | false =>
          rw [hcpb, if_neg (by simp)] at he
          subst he
          have HO5 := hide (own_on HO3.out hb5)
          clear hcpb hb5 HRB
          go_wp2_with fail
          go_roundw
          case rel => exact ⟨j + 1, ps, rfl, by go_num, by omega, by omega, by omega, hcp, HO5, HC5, HB5⟩
          case measure => simp [intOf]; omega
        | true =>
          rw [hcpb, if_pos rfl] at he
          have h0 := Utf.isCp_iff.1 hcpb
          obtain ⟨p, rfl⟩ : ∃ p : Nat, cp = (p : Int) := ⟨cp.toNat, by omega⟩
          rw [Int.toNat_natCast] at he
          obtain ⟨v5, rfl, ho5⟩ := he
          have HO5 := hide (World.ownsRow.mono ho5 hb.out.size)
          have HCP2 : Hid (Utf.allCp (ps ++ [p])) := hide (fun q hq => by
            rcases List.mem_append.1 hq with h | h
            · exact hcp.out q h
            · rw [List.mem_singleton] at h; rw [h]; exact hcpb)
          have hS5 := HB5.out.size
          clear h0 hcpb ho5 hb5 HRB
          go_wp2_with (at_builtin; go_loud (refine wpList_append_reads rfl (.tmp 40) (.tmp 42) _ rfl w1.heap.size 3 i0 (.int .i64 0) 1 8 Tryd.underlying22 hti hz0 hz1 hz2 rfl (by omega) u4 ps.length (ints (zs ps)) rfl (HC5.out.alloc _) (w5.heap.size + 1) (some ⟨w5.heap.size, 0, none⟩) 1 1 [.int .i64 (p : Int)] rfl (Reads.one _ _ _) (by intro u hu; simp at hu; subst hu; rfl) (by unfold maxLen; omega) (by omega) (by simp; omega) ?_); intro v8 w8 hown8 hg8 hat8)
          have HO8 := hide ((HO5.out.alloc (.cells #[.int .i64 (p : Int)] 3)).kept hg8 (rows_apart HO5.out HC5.out (by decide)))
          have HB8 := hide ((HB5.out.alloc hS5 (.cells #[.int .i64 (p : Int)] 3)).grown hg8 (by simp; omega) fun q hq => (HC5.out.lt q hq).1)
          go_roundw
          case rel => exact ⟨j + 1, ps ++ [p], rfl, by go_num, by omega, by omega, by rw [List.length_append]; simp only [List.length_cons, List.length_nil]; omega, HCP2, hide (by rw [Utf.encs_append, show Utf.encs [p] = Utf.enc p by rw [Utf.encs_cons, Utf.encs_nil, List.append_nil], List.length_append]; exact HO8.out), hide (by rw [List.length_append, zs_snoc]; exact hown8), HB8⟩
          case measure => simp [intOf]; omega
    · obtain rfl : j = n := by omega
      have HPS := hide (And.intro hps hcp.out)
      have hk60 : ps.length ≤ 60 := by omega
      have hel := encs_le ps hcp.out
      obtain ⟨A3, c3, rfl, hc3, hm3, hr3⟩ := own_slice hrb.out
      obtain ⟨A4, c4, rfl, hc4, hm4, hr4⟩ := own_slice hrc.out
      have HRB : Hid (RB wr A3 (Utf.encs ps).length (Utf.encs ps)) := hide hr3
      have HRC : Hid (RI wr A4 ps.length (zs ps)) := hide hr4
      have HC34 := hide (And.intro hc3 hm3)
      obtain ⟨nb, hnb⟩ : ∃ nb, nb = (Utf.encs ps).length := ⟨_, rfl⟩
      obtain ⟨k, hk⟩ : ∃ k, k = ps.length := ⟨_, rfl⟩
      rw [← hnb] at HRB HC34 hel ⊢
      rw [← hk] at HRC hk60 hel ⊢
      have HNB := hide hnb
      have HK := hide hk
      have hnb4 : nb ≤ 240 := by omega
      have HBW := hide hb.out
      clear hc3 hm3 hr3 hc4 hm4 hr4 hrb hrc hps hcp hnb hk hel hb
      go_wp2_with fail
      go_loopw [9, 49] (fun a i wr2 => ∃ j : Nat, i = .int .i64 (j : Int) ∧ j ≤ k ∧ a = .int .i64 ((Utf.encs (ps.take j)).length : Nat) ∧ Hid (Below wr.heap.size wr wr2)) (fun _ i _ => k - (intOf i).toNat)
      case atStart => exact ⟨0, rfl, Nat.zero_le _, rfl, hide (Below.refl _ _)⟩
      case round =>
        obtain ⟨j, rfl, hj, rfl, hb2⟩ := hrel
        by_cases hlt : j < k
        · have hjl : j < (zs ps).length := by rw [zs_len, ← HK.out]; exact hlt
          have hjp : j < ps.length := by rw [← HK.out]; exact hlt
          obtain ⟨b5, o5, rfl, _, hcell⟩ := (HRC.out.on hb2.out).cell hjl
          have hz : (zs ps)[j] = (ps[j] : Int) := by simp [zs]
          rw [hz] at hcell
          obtain ⟨e1, e2, e3⟩ := encs_at HPS.out.2 hjp
          have HE2 := hide e2
          have hj0 : (0 : Int) ≤ (j : Int) := by omega
          have hj1 : (j : Int) < (k : Int) := by omega
          have HE1 := hide e1
          rw [← HNB.out] at e3
          have hw := wr_at (a := (Utf.encs (ps.take j)).length) (s := Utf.sz (ps[j] : Int)) (by omega)
          have HW := hide hw
          generalize (Utf.encs (ps.take j)).length = a at *
          generalize hcpj : ps[j] = p at *
          clear hz e1 e2 hjl hcpj
          go_wp2_with fail
          refine Calls.mono (Next_any A3 nb c3 (Utf.encs ps) (a : Int) _ (HRB.out.on hb2.out) HC34.out.1 (by omega) (HG.out.on (below_then HB1.out (below_then HBW.out hb2.out)))) ?_
          rintro e w5 ⟨rfl, hb5⟩
          rw [HE1.out]
          have HB5 := hide (below_then hb2.out hb5)
          clear hb5
          unfold nextAtV
          dsimp only
          go_wp2_with fail
          refine Calls.mono (Size_any (p : Int) _) ?_
          rintro e w6 ⟨rfl, rfl⟩
          go_wp2_with fail
          go_roundw
          case rel => exact ⟨j + 1, by go_num, by omega, by rw [HE2.out]; first | rfl | congr 1, HB5⟩
          case measure => simp [intOf]; omega
        · obtain rfl : j = k := by omega
          have hfull : (Utf.encs (ps.take j)).length = nb := by rw [HNB.out, List.take_of_length_le (by rw [HK.out]; exact Nat.le_refl _)]
          rw [hfull]
          have HR5 := hide (HRB.out.on hb2.out)
          have HC5 := hide (HRC.out.on hb2.out)
          have HB5 := hide (below_then HBW.out hb2.out)
          have hcv : ∀ W5 : World, Below wr.heap.size wr W5 → (convert 24 9 (.slice A3 nb c3)).run Tryd.prog W5 = .ok (.string (str (Utf.encs ps))) W5 := fun W5 hbb => run_str (P := Tryd.prog) W5 24 9 5 A3 nb c3 _ (HR5.out.on hbb) (by kernel_rfl) (by kernel_rfl) (by kernel_rfl)
          have hcv0 := hcv wr (Below.refl _ _)
          have hnn : ((nb : Int) == (nb : Int)) = true := by simp
          have HNN := hide hnn
          clear hfull hnn hb2
          go_wp2_with fail
          refine Calls.mono (Points_any (Utf.encs ps) _ (by rw [← HNB.out]; omega) (HG.out.on (below_then HB1.out HB5.out))) ?_
          rintro e w6 ⟨hb6, he⟩
          rw [Utf.scan_text ps HPS.out.2, if_pos rfl] at he
          obtain ⟨A6, c6, rfl, hr6, hc6, hm6⟩ := he
          dsimp only at hr6 ⊢
          rw [← HK.out] at hr6 ⊢
          have HI6 := hide hr6
          have HB6 := hide (below_then HB5.out hb6)
          have HC6 := hide (HC5.out.on hb6)
          have HR6 := hide (HR5.out.on hb6)
          clear hb6 hr6 hc6 hm6 hcv hcv0
          go_wp2_with fail
          refine Calls.mono (Text_any A4 j c4 (zs ps) _ HC6.out (by omega)) ?_
          rintro e w7 ⟨rfl, hb7⟩
          rw [text_yes rfl HPS.out.2]
          have HI7 := hide (HI6.out.on hb7)
          have HC7 := hide (HC6.out.on hb7)
          have HB7 := hide (below_then HB6.out hb7)
          have HR7 := hide (HR6.out.on hb7)
          clear hb7 HI6 HC6 HB6 HR6
          have hnn := HNN.out
          go_wp2_with fail
          refine Calls.mono (equal_ints A6 A4 j j c6 c4 (zs ps) (zs ps) _ HI7.out HC7.out (by omega) (by omega)) ?_
          rintro e w8 ⟨rfl, hb8⟩
          rw [decide_eq_true rfl]
          have hcv8 := run_str (P := Tryd.prog) w8 24 9 5 A3 nb c3 _ (HR7.out.on hb8) (by kernel_rfl) (by kernel_rfl) (by kernel_rfl)
          generalize str (Utf.encs ps) = S at *
          go_wp2_with fail
          go_ret
          exact ⟨by first | rfl | simp, below_then HB1.out (below_then HB7.out hb8)⟩
/-! ### the row's step, written by program after the guide's skeleton -/
theorem own : ownKnob Tryd.prog.godebug = none := by kernel_rfl
theorem laidOut : laidOutB Tryd.prog = true := by kernel_rfl
set_option maxRecDepth 100000 in
theorem lifted (os : Os) (started : os.Started) (H : Type) (enc : TypeId × Value → H) :
    ReturnsInHanded {} Tryd.checked os 3 .any (fun w args => (Rows.utfBackSpec.pre enc Tryd.prog Tryd.f3 [] false w args ∧ laidMetH Tryd.prog laidL w) ∧ sizedMet enc Tryd.prog Tryd.f3 (OpenSpec.ofChange Rows.utfBackSpec) false w args) (Rows.utfBackSpec.post enc Tryd.prog Tryd.f3 false true false false) := by
  refine returnsInHanded_of_change_and (C := Tryd.checked) (X := fun w _ => laidMetH Tryd.prog laidL w) (fun _ _ _ hh h => h.of_heap hh) own started (by kernel_rfl) Tryd.func3
    (ChangeSpec.witness_shaped (enc := enc) (C := Tryd.checked) (os := os) (X := fun w _ => laidMetH Tryd.prog laidL w) false (World.doorLaid Tryd.prog 400 os) #[.slice none 0 0] 8 rfl (World.shaped_of_RefB (by kernel_rfl) (by kernel_rfl)) (by kernel_rfl) (by kernel_rfl) (by kernel_rfl) (door_met os _)) ?_
  intro W base args ds gs before hval0 hW _ _ hL _
  have hGl := gl_of_laid hL
  have hval : ∀ (j : Nat) t v, Tryd.f3.params[j]? = some t → args[j]? = some v → Value.okWide Tryd.prog W .any base t v := hval0
  have hW' := hW
  obtain ⟨p, q, hA0, hV, rfl, hfz, hnd⟩ := hW
  have hA : DataW.TrodAll enc Tryd.prog W 0 (fun _ => true) true Tryd.f3.params.toList args.toList ds p := hA0
  rw [Tryd.params3] at hA hval
  obtain ⟨v0, vs0, d0, ds0, p0, q0, hargs, rfl, rfl, h0, r0⟩ := trodAll_cons hA
  obtain ⟨rfl, rfl, rfl⟩ := trodAll_nil r0
  obtain rfl : args = #[v0] := by cases args; simp_all
  obtain ⟨rfl, rfl⟩ := trodVars_none hV
  have k0 := h0
  have lt0 := trod_lt' k0
  obtain ⟨a0, n0, c0, l0, rfl, w0⟩ := arg_ints Tryd.underlying22 Tryd.underlying3 (by kernel_rfl) (hval 0 22 v0 rfl rfl) h0
  clear hA0 hval0
  refine (walk a0 n0 c0 l0 W w0 hGl).mono fun e W' ⟨he, bel⟩ => ?_
  subst he
  exact ⟨_, rfl, _, _, _, [], _, [], hW', trodAll_mk1 (shut_bool Tryd.underlying4 _), (trodAll_cons_mk (Below.trod laidOut (by kernel_rfl) (of_decide_eq_true (by kernel_rfl)) k0 bel lt0) trodAll_mk0), rfl, bel.frame _, fun h => by cases h⟩

theorem over : Rows.utfBackRow.holds Tryd.pinned (OpenSpec.ofChange Rows.utfBackSpec) :=
  OpenClaim.holds_of_wide 3 Tryd.f3 rfl rfl rfl rfl rfl rfl rfl ⟨rfl, rfl, rfl, rfl, rfl⟩ rfl rfl rfl rfl rfl (by kernel_rfl) Tryd.func3 (by kernel_rfl)
    (of_decide_eq_true (by kernel_rfl)) (by unfold Func.isWrapper; first | (rw [if_pos (by decide +kernel)]; kernel_rfl) | (rw [if_neg (by decide +kernel)]; exact ⟨rfl, rfl⟩))
    (fun os started H enc _ => lifted os started H enc)

/-- the tied card, closed by the builder -/
theorem proved : Rows.UtfBackCardSaid :=
  Claim7.holds_tied_plain_at .later [] [.data] true (true, "5db38756cb098dae97c1566c1026846fa7771e753dcd2c8b6f1b86bf2868e610") false
    over (fun _ h => by cases h) (by kernel_rfl) (fun _ h => by cases h) utfBack_row_tie rfl ⟨rfl, rfl⟩ (by kernel_rfl) rfl
    (fun f fn hf hfn => by
      obtain rfl : f = 3 := Option.some.inj ((show Tryd.prog.funcNamed "davenport/davenportlaw01.UtfBack" = some 3 by kernel_rfl).symm.trans hf) |>.symm
      obtain rfl : fn = Tryd.f3 := (Option.some.inj (Tryd.func3.symm.trans hfn)).symm
      exact ⟨by kernel_rfl, fun j t ht => by
        rw [Tryd.params3] at ht
        rcases j with _ | j
        · obtain rfl : 22 = t := by simpa using ht
          exact (show Tryd.prog.wantsStandIn 22 = false by kernel_rfl)
        · simp at ht⟩)
    (by kernel_rfl)
end Go.Proofs.YtheoadempenpaaaDoor.LawUtfBack
