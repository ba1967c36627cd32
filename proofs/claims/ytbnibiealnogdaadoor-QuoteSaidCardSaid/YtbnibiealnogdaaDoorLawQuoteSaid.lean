/- Proved: davenportlaw02.QuoteSaid returns true for every input: a code point may be written as its bytes or as escapes, in either case of the digits, alone or as a surrogate pair. The card ties the package variable that the walk reads to the program's text. -/
import Derived.Test.YtbnibiealnogdaaDoorRows
import Derived.Test.YtbnibiealnogdaaDoorCards
import Derived.Test.YtbnibiealnogdaaDoorTie
import Derived.Test.YtbnibiealnogdaaDoorOpen
import Derived.Test.YtbnibiealnogdaaDoorFew
import Derived.Test.YtbnibiealnogdaaDoorUtfLaid
import Derived.Test.YtbnibiealnogdaaDoorQuoWakes
import Derived.Test.YtbnibiealnogdaaDoorQuoReadMath
import Derived.Test.YtbnibiealnogdaaDoorQuoFour
import Derived.Test.YtbnibiealnogdaaDoorIntsEq
import Derived.SevenTiedAt
import Derived.Lay
import Derived.LaidSub
namespace Go.Proofs.YtbnibiealnogdaaDoor.LawQuoteSaid
open Go.ChangeShapes Go.WideShapes Go.ChangeAt Go.RowKit
open Go.ChangeMaps (open_string shut_string)

theorem rows_apart {w : World} {b1 b2 : Nat} {e1 e2 : TypeId} {s1 s2 n1 n2 : Nat} {v1 v2 : Value} {x1 x2 : List Value} (h1 : w.ownsRow b1 e1 s1 v1 n1 x1) (h2 : w.ownsRow b2 e2 s2 v2 n2 x2) (hne : e1 ≠ e2) :
    v1.ownBlock = none ∨ v1.ownBlock ≠ v2.ownBlock := by
  rcases h1.2 with ⟨rfl, _⟩ | ⟨g, cap, cur, rfl, _, hg, _⟩
  · exact .inl rfl
  · right
    intro he
    rcases h2.2 with ⟨rfl, _⟩ | ⟨g', cap', cur', rfl, _, hg', _⟩
    · cases he
    · simp only [Value.ownBlock] at he
      obtain rfl : g = g' := by simpa using he
      rw [hg] at hg'
      injection hg' with hg'
      injection hg' with _ he2
      exact hne he2
/-- the card's list; two of its tables are the form's own constants -/
def laidP : List (String × DataW Unit) := [("unicode/utf8.acceptRanges", Rows.laid_unicode_utf8_acceptRanges), ("davenport/utf.none", Rows.laid_davenport_utf_none), ("unicode.CaseRanges", Rows.laid_unicode_CaseRanges), ("unicode/utf8.first", Rows.laid_unicode_utf8_first)]
theorem gl_of_pin {W : World} (h : laidMetH Tryd.prog laidP W) : Gl W :=
  gl_of_laid (show laidMetH Tryd.prog (laidP.filter fun x => x.1 == "davenport/utf.none") W from h.filter _)
/-- the row so far -/
abbrev row (l : List (Nat × Int)) : ByteArray := str (34 :: Quo.saids l)
theorem row_snoc (l : List (Nat × Int)) (p : Nat) (way : Int) : row l ++ str (Quo.said way p) = row (l ++ [(p, way)]) := by
  unfold row
  rw [str_cat, Quo.saids_snoc]
  rfl
theorem row_size {l : List (Nat × Int)} (h : Utf.allCp (l.map Prod.fst)) (hl : l.length ≤ 60) : (row l).size ≤ 721 := by
  unfold row
  rw [str_size, List.length_cons]
  have := Quo.saids_len l h
  omega
theorem said_size {p : Nat} (hp : Utf.isCp (p : Int) = true) (way : Int) : (str (Quo.said way p)).size ≤ 12 := by
  rw [str_size]; exact (Quo.said_len hp way).2
theorem said0 {p : Nat} {way : Int} (h : Quo.saidWay way p = 0) : Quo.said way p = Utf.enc p := by unfold Quo.said; rw [if_pos h]
theorem said1 {p : Nat} {way : Int} (h : Quo.saidWay way p = 1) : Quo.said way p = Quo.fourL p (way.tmod 2 == 0) := by unfold Quo.said; rw [if_neg (by omega), if_pos h]
theorem said2 {p : Nat} {way : Int} (h : Quo.saidWay way p = 2) : Quo.said way p = Quo.fourL (55296 + (p - 65536) / 1024) (way.tmod 2 == 0) ++ Quo.fourL (56320 + (p - 65536) % 1024) (way.tmod 5 == 0) := by unfold Quo.said; rw [if_neg (by omega), if_neg (by omega)]
theorem i64_and1023 {x : Int} (h₀ : 0 ≤ x) (h₁ : x < 4611686018427387904) : Go.bits .and .i64 x 1023 = x % 1024 := bits_mask .i64 62 (by decide) wraps_i64' 10 (by decide) x h₀ h₁
theorem wrap_near {z : Int} (h0 : 0 ≤ z) (h1 : z < 4611686018427387904) : wrap64 z = z := by unfold wrap64; omega
theorem pair_arith {p : Nat} {cp : Int} (hz : cp = (p : Int)) (h : 65536 ≤ p) (hp : Utf.isCp (p : Int) = true) : cp < 1114112 ∧
    55296 + (cp - 65536) / 1024 = ((55296 + (p - 65536) / 1024 : Nat) : Int) ∧ Go.bits .and .i64 (cp - 65536) 1023 = (cp - 65536) % 1024 ∧ 56320 + (cp - 65536) % 1024 = ((56320 + (p - 65536) % 1024 : Nat) : Int) ∧
    55296 + (p - 65536) / 1024 < 65536 ∧ 56320 + (p - 65536) % 1024 < 65536 := by
  have h1 := Utf.isCp_iff.1 hp
  exact ⟨by omega, by omega, i64_and1023 (by omega) (by omega), by omega, by omega, by omega⟩
set_option maxRecDepth 100000 in
set_option maxHeartbeats 8000000 in
theorem walk (A : Option Addr) (n c : Nat) (x : List Int) (B : Option Addr) (m d : Nat) (y : List Int) (w : World) (hA : ArgInts .i64 w A n c x) (hB : ArgInts .i64 w B m d y) (hg : Gl w) :
    Calls Tryd.prog 9 #[.slice A n c, .slice B m d] w fun e w' => e = .returned (.bool true) ∧ Below w.heap.size w w' := by
  obtain ⟨i0, hti, hz0, hz1, hz2⟩ := info_parts i64_info
  obtain ⟨hr, hnc, hc, _⟩ := hA
  obtain ⟨hr', hmd, hd, _⟩ := hB
  have HR := hide (show RI w A n x from hr)
  have HY := hide (show RI w B m y from hr')
  have HG := hide hg
  have HC := hide (And.intro (And.intro hnc hc) (And.intro hmd hd))
  have hyl : y.length = m := RI.len (show RI w B m y from hr')
  have HYL := hide hyl
  clear hr hr' hg hnc hmd hyl hd
  unfold maxLen at hc
  go_enter Tryd.func9, Tryd.ntmps9
  go_wp2_with fail
  refine Calls.mono (wakes_any _ HG.out) ?_
  rintro e w0 ⟨rfl, hb0⟩
  have HB0 := hide hb0
  clear hb0
  obtain ⟨M, hM⟩ : ∃ M, M = min n 60 := ⟨_, rfl⟩
  have f1 : min (n : Int) 60 = (M : Int) := by omega
  have f3 : (0 : Int) ≤ (M : Int) := by omega
  have hMn : M ≤ n := by omega
  have f4 : (M : Int) ≤ (c : Int) := by have := HC.out.1.1; omega
  have hM60 : M ≤ 60 := by omega
  clear hM
  go_wp2_with fail
  have HB1 := hide (below_then HB0.out (below_alloc w0 (.cells #[] 3)))
  have HW1 : Hid ((w0.alloc (.cells #[] 3)).ownsRow w0.heap.size 3 1 (.slice (some ⟨w0.heap.size, 0, none⟩) 0 0) 0 (ints (zs []))) := hide (World.ownsRow_lit _ _ 0 (Nat.le_refl _) (by simp [maxLen]) rfl)
  have HS0 := hide (show w.heap.size ≤ w0.heap.size from HB0.out.size)
  have HS1 := hide (show (w0.alloc (.cells #[] 3)).heap.size = w0.heap.size + 1 by simp)
  obtain ⟨w1, hw1⟩ : ∃ w1, w1 = w0.alloc (.cells #[] 3) := ⟨_, rfl⟩
  rw [← hw1] at HB1 HW1 HS1 ⊢
  clear hw1
  go_loopw [5, 6, 27] (fun r v i wr => ∃ (j : Nat) (l : List (Nat × Int)), r = .string (row l) ∧ i = .int .i64 (j : Int) ∧ j ≤ M ∧ l.length ≤ j ∧ Hid (Utf.allCp (l.map Prod.fst)) ∧ Hid (wr.ownsRow w0.heap.size 3 1 v l.length (ints (zs (l.map Prod.fst)))) ∧ Hid (Below w.heap.size w wr) ∧ Hid (w1.heap.size ≤ wr.heap.size)) (fun _ _ i _ => M - (intOf i).toNat)
  case atStart => exact ⟨0, [], rfl, rfl, Nat.zero_le _, Nat.le_refl _, hide (fun p hp => by cases hp), HW1, HB1, hide (Nat.le_refl _)⟩
  case round =>
    obtain ⟨j, l, rfl, rfl, hj, hlj, hcp, hrow, hb, hsz⟩ := hrel
    by_cases hlt : j < M
    · have hjl : j < x.length := by rw [RI.len HR.out]; omega
      obtain ⟨b, o, rfl, _, hcell⟩ := (HR.out.on hb.out).cell hjl
      have hj0 : (0 : Int) ≤ (j : Int) := by omega
      have hj1 : (j : Int) < (M : Int) := by omega
      generalize x[j] = cp at *
      cases hcpb : Utf.isCp cp with
      | false =>
        have h0 : ((Utf.sz cp : Int) == 0) = true := by
          rw [beq_iff_eq]
          by_cases hz : (Utf.sz cp) = 0
          · omega
          · have := Utf.sz_pos.1 (by omega : 0 < Utf.sz cp); rw [hcpb] at this; cases this
        clear hcpb
        go_wp2_with fail
        refine Calls.mono (Size_any cp _) ?_
        rintro e w6 ⟨rfl, rfl⟩
        go_wp2_with fail
        go_roundw
        case rel => exact ⟨j + 1, l, rfl, by go_num, by omega, by omega, hcp, hrow, hb, hsz⟩
        case measure => simp [intOf]; omega
      | true =>
        have h0 : ((Utf.sz cp : Int) == 0) = false := by
          rw [beq_eq_false_iff_ne]; have := Utf.sz_pos.2 hcpb; omega
        have hcp1 := Utf.isCp_iff.1 hcpb
        obtain ⟨p, hp⟩ : ∃ p : Nat, cp = (p : Int) := ⟨cp.toNat, by omega⟩
        have HZ := hide hp
        have HP := hide (show Utf.isCp (p : Int) = true by rw [← hp]; exact hcpb)
        have HPC := hide hcpb
        clear hcpb hcp1 hp
        go_wp2_with fail
        refine Calls.mono (Size_any cp _) ?_
        rintro e w6 ⟨rfl, rfl⟩
        by_cases hjm : j < m
        · have hjy : j < y.length := by rw [HYL.out]; exact hjm
          obtain ⟨b', o', rfl, _, hcell'⟩ := (HY.out.on hb.out).cell hjy
          have hj2 : (j : Int) < (m : Int) := by omega
          generalize y[j] = way at *
          clear hjy hjm
          go_wp2_with fail
          refine Calls.mono (Put_any none 0 0 cp [] _ (RB.empty _ _) (by omega)) ?_
          rintro e w7 ⟨hb7, he⟩
          rw [HPC.out, if_pos rfl, show cp.toNat = p by have := HZ.out; omega] at he
          obtain ⟨v7, rfl, ho7⟩ := he
          obtain ⟨A7, c7, rfl, _, _, hr7⟩ := own_slice ho7
          rw [List.nil_append, Nat.zero_add] at hr7
          have HR7 : Hid (RB w7 A7 (Utf.enc p).length (Utf.enc p)) := hide hr7
          have HB7 := hide (below_then hb.out hb7)
          have HO7 := hide (own_on hrow.out hb7)
          have HS7 := hide (Nat.le_trans hsz.out hb7.size)
          clear hb7 ho7 hr7
          by_cases h3 : way.tmod 3 = 0
          · have e1 : (way.tmod 3 == 0) = true := by rw [h3]; rfl
            by_cases h32 : 32 ≤ p
            · have e2 : (32 : Int) ≤ cp := by have := HZ.out; omega
              by_cases h34 : p = 34
              · have e3 : (cp != 34) = false := by rw [HZ.out, h34]; rfl
                have HW := hide (show Quo.saidWay way p = 1 by unfold Quo.saidWay; rw [if_neg (by omega), if_pos (by omega)])
                clear h3 h34
                have hp6 : p < 65536 := by have := HW.out; unfold Quo.saidWay at this; split at this; · omega
                                           · split at this <;> omega
                have h64 : cp < 65536 := by have := HZ.out; omega
                have HSD := hide (said1 HW.out)
                obtain ⟨g, hg2⟩ : ∃ g : Bool, (way.tmod 2 == 0) = g := ⟨_, rfl⟩
                rw [hg2] at HSD
                go_wp2_with fail
                have H4 := four_any p g w7 hp6
                rw [← HZ.out] at H4
                refine Calls.mono H4 ?_
                rintro e w9 ⟨rfl, hb9⟩
                clear H4 h64
                rw [← HSD.out]
                have HB9 := hide (below_then HB7.out hb9)
                have HO9 := hide (own_on HO7.out hb9)
                have HS9 := hide (Nat.le_trans HS7.out hb9.size)
                clear hb9
                have z1 := row_size hcp.out (show l.length ≤ 60 by omega)
                have z2 := said_size HP.out way
                have HSN := hide (row_snoc l p way)
                have HA9 : Hid (Utf.allCp ((l ++ [(p, way)]).map Prod.fst)) := hide (fun q hq => by
                  rw [List.map_append] at hq
                  rcases List.mem_append.1 hq with h | h
                  · exact hcp.out q h
                  · simp at h; rw [h]; exact HP.out)
                generalize str (Quo.said way p) = T at *
                have hS9 := HS9.out
                have hS0 := HS0.out
                have hS1 := HS1.out
                go_wp2_with (at_builtin; go_loud (refine wpList_append_reads rfl (.tmp 97) (.tmp 99) _ rfl w0.heap.size 3 i0 (.int .i64 0) 1 8 Tryd.underlying26 hti hz0 hz1 hz2 rfl (by omega) u6 l.length (ints (zs (l.map Prod.fst))) rfl (HO9.out.alloc _) (w9.heap.size + 1) (some ⟨w9.heap.size, 0, none⟩) 1 1 [.int .i64 cp] rfl (Reads.one _ _ _) (by intro u hu; simp at hu; subst hu; rfl) (by unfold maxLen; omega) (by omega) (by simp; omega) ?_); intro v8 w8 hown8 hg8 hat8)
                rw [HZ.out] at hown8
                have HB10 := hide ((HB9.out.alloc (by omega) (.cells #[.int .i64 cp] 3)).grown hg8 (by simp; omega) fun q hq => by have := (HO9.out.lt q hq).1; omega)
                rw [HSN.out]
                go_roundw
                case rel => exact ⟨j + 1, l ++ [(p, way)], rfl, by go_num, by omega, by rw [List.length_append]; simp only [List.length_cons, List.length_nil]; omega, HA9, hide (by rw [List.length_append, List.map_append, show List.map Prod.fst [(p, way)] = [p] from rfl, zs_snoc]; exact hown8), HB10, hide (by have := hg8.size; simp at this; omega)⟩
                case measure => simp [intOf]; omega
              · have e3 : (cp != 34) = true := by rw [bne_iff_ne]; have := HZ.out; omega
                by_cases h92 : p = 92
                · have e4 : (cp != 92) = false := by rw [HZ.out, h92]; rfl
                  have HW := hide (show Quo.saidWay way p = 1 by unfold Quo.saidWay; rw [if_neg (by omega), if_pos (by omega)])
                  clear h3 h92
                  have hp6 : p < 65536 := by have := HW.out; unfold Quo.saidWay at this; split at this; · omega
                                             · split at this <;> omega
                  have h64 : cp < 65536 := by have := HZ.out; omega
                  have HSD := hide (said1 HW.out)
                  obtain ⟨g, hg2⟩ : ∃ g : Bool, (way.tmod 2 == 0) = g := ⟨_, rfl⟩
                  rw [hg2] at HSD
                  go_wp2_with fail
                  have H4 := four_any p g w7 hp6
                  rw [← HZ.out] at H4
                  refine Calls.mono H4 ?_
                  rintro e w9 ⟨rfl, hb9⟩
                  clear H4 h64
                  rw [← HSD.out]
                  have HB9 := hide (below_then HB7.out hb9)
                  have HO9 := hide (own_on HO7.out hb9)
                  have HS9 := hide (Nat.le_trans HS7.out hb9.size)
                  clear hb9
                  have z1 := row_size hcp.out (show l.length ≤ 60 by omega)
                  have z2 := said_size HP.out way
                  have HSN := hide (row_snoc l p way)
                  have HA9 : Hid (Utf.allCp ((l ++ [(p, way)]).map Prod.fst)) := hide (fun q hq => by
                    rw [List.map_append] at hq
                    rcases List.mem_append.1 hq with h | h
                    · exact hcp.out q h
                    · simp at h; rw [h]; exact HP.out)
                  generalize str (Quo.said way p) = T at *
                  have hS9 := HS9.out
                  have hS0 := HS0.out
                  have hS1 := HS1.out
                  go_wp2_with (at_builtin; go_loud (refine wpList_append_reads rfl (.tmp 97) (.tmp 99) _ rfl w0.heap.size 3 i0 (.int .i64 0) 1 8 Tryd.underlying26 hti hz0 hz1 hz2 rfl (by omega) u6 l.length (ints (zs (l.map Prod.fst))) rfl (HO9.out.alloc _) (w9.heap.size + 1) (some ⟨w9.heap.size, 0, none⟩) 1 1 [.int .i64 cp] rfl (Reads.one _ _ _) (by intro u hu; simp at hu; subst hu; rfl) (by unfold maxLen; omega) (by omega) (by simp; omega) ?_); intro v8 w8 hown8 hg8 hat8)
                  rw [HZ.out] at hown8
                  have HB10 := hide ((HB9.out.alloc (by omega) (.cells #[.int .i64 cp] 3)).grown hg8 (by simp; omega) fun q hq => by have := (HO9.out.lt q hq).1; omega)
                  rw [HSN.out]
                  go_roundw
                  case rel => exact ⟨j + 1, l ++ [(p, way)], rfl, by go_num, by omega, by rw [List.length_append]; simp only [List.length_cons, List.length_nil]; omega, HA9, hide (by rw [List.length_append, List.map_append, show List.map Prod.fst [(p, way)] = [p] from rfl, zs_snoc]; exact hown8), HB10, hide (by have := hg8.size; simp at this; omega)⟩
                  case measure => simp [intOf]; omega
                · have e4 : (cp != 92) = true := by rw [bne_iff_ne]; have := HZ.out; omega
                  have HW := hide (show Quo.saidWay way p = 0 by unfold Quo.saidWay; rw [if_pos (by omega)])
                  clear h3
                  have HSD := hide (said0 HW.out)
                  have hcv := run_str (P := Tryd.prog) w7 29 9 5 A7 _ c7 _ HR7.out (by kernel_rfl) (by kernel_rfl) (by kernel_rfl)
                  rw [← HSD.out] at hcv ⊢
                  obtain ⟨w9, hw9⟩ : ∃ w9, w9 = w7 := ⟨_, rfl⟩
                  rw [← hw9] at hcv HB7 HO7 HS7 ⊢
                  have HB9 := HB7
                  have HO9 := HO7
                  have HS9 := HS7
                  clear hw9
                  have z1 := row_size hcp.out (show l.length ≤ 60 by omega)
                  have z2 := said_size HP.out way
                  have HSN := hide (row_snoc l p way)
                  have HA9 : Hid (Utf.allCp ((l ++ [(p, way)]).map Prod.fst)) := hide (fun q hq => by
                    rw [List.map_append] at hq
                    rcases List.mem_append.1 hq with h | h
                    · exact hcp.out q h
                    · simp at h; rw [h]; exact HP.out)
                  generalize str (Quo.said way p) = T at *
                  have hS9 := HS9.out
                  have hS0 := HS0.out
                  have hS1 := HS1.out
                  go_wp2_with (at_builtin; go_loud (refine wpList_append_reads rfl (.tmp 97) (.tmp 99) _ rfl w0.heap.size 3 i0 (.int .i64 0) 1 8 Tryd.underlying26 hti hz0 hz1 hz2 rfl (by omega) u6 l.length (ints (zs (l.map Prod.fst))) rfl (HO9.out.alloc _) (w9.heap.size + 1) (some ⟨w9.heap.size, 0, none⟩) 1 1 [.int .i64 cp] rfl (Reads.one _ _ _) (by intro u hu; simp at hu; subst hu; rfl) (by unfold maxLen; omega) (by omega) (by simp; omega) ?_); intro v8 w8 hown8 hg8 hat8)
                  rw [HZ.out] at hown8
                  have HB10 := hide ((HB9.out.alloc (by omega) (.cells #[.int .i64 cp] 3)).grown hg8 (by simp; omega) fun q hq => by have := (HO9.out.lt q hq).1; omega)
                  rw [HSN.out]
                  go_roundw
                  case rel => exact ⟨j + 1, l ++ [(p, way)], rfl, by go_num, by omega, by rw [List.length_append]; simp only [List.length_cons, List.length_nil]; omega, HA9, hide (by rw [List.length_append, List.map_append, show List.map Prod.fst [(p, way)] = [p] from rfl, zs_snoc]; exact hown8), HB10, hide (by have := hg8.size; simp at this; omega)⟩
                  case measure => simp [intOf]; omega
            · have e2 : ¬ (32 : Int) ≤ cp := by have := HZ.out; omega
              have HW := hide (show Quo.saidWay way p = 1 by unfold Quo.saidWay; rw [if_neg (by omega), if_pos (by omega)])
              clear h3
              have hp6 : p < 65536 := by have := HW.out; unfold Quo.saidWay at this; split at this; · omega
                                         · split at this <;> omega
              have h64 : cp < 65536 := by have := HZ.out; omega
              have HSD := hide (said1 HW.out)
              obtain ⟨g, hg2⟩ : ∃ g : Bool, (way.tmod 2 == 0) = g := ⟨_, rfl⟩
              rw [hg2] at HSD
              go_wp2_with fail
              have H4 := four_any p g w7 hp6
              rw [← HZ.out] at H4
              refine Calls.mono H4 ?_
              rintro e w9 ⟨rfl, hb9⟩
              clear H4 h64
              rw [← HSD.out]
              have HB9 := hide (below_then HB7.out hb9)
              have HO9 := hide (own_on HO7.out hb9)
              have HS9 := hide (Nat.le_trans HS7.out hb9.size)
              clear hb9
              have z1 := row_size hcp.out (show l.length ≤ 60 by omega)
              have z2 := said_size HP.out way
              have HSN := hide (row_snoc l p way)
              have HA9 : Hid (Utf.allCp ((l ++ [(p, way)]).map Prod.fst)) := hide (fun q hq => by
                rw [List.map_append] at hq
                rcases List.mem_append.1 hq with h | h
                · exact hcp.out q h
                · simp at h; rw [h]; exact HP.out)
              generalize str (Quo.said way p) = T at *
              have hS9 := HS9.out
              have hS0 := HS0.out
              have hS1 := HS1.out
              go_wp2_with (at_builtin; go_loud (refine wpList_append_reads rfl (.tmp 97) (.tmp 99) _ rfl w0.heap.size 3 i0 (.int .i64 0) 1 8 Tryd.underlying26 hti hz0 hz1 hz2 rfl (by omega) u6 l.length (ints (zs (l.map Prod.fst))) rfl (HO9.out.alloc _) (w9.heap.size + 1) (some ⟨w9.heap.size, 0, none⟩) 1 1 [.int .i64 cp] rfl (Reads.one _ _ _) (by intro u hu; simp at hu; subst hu; rfl) (by unfold maxLen; omega) (by omega) (by simp; omega) ?_); intro v8 w8 hown8 hg8 hat8)
              rw [HZ.out] at hown8
              have HB10 := hide ((HB9.out.alloc (by omega) (.cells #[.int .i64 cp] 3)).grown hg8 (by simp; omega) fun q hq => by have := (HO9.out.lt q hq).1; omega)
              rw [HSN.out]
              go_roundw
              case rel => exact ⟨j + 1, l ++ [(p, way)], rfl, by go_num, by omega, by rw [List.length_append]; simp only [List.length_cons, List.length_nil]; omega, HA9, hide (by rw [List.length_append, List.map_append, show List.map Prod.fst [(p, way)] = [p] from rfl, zs_snoc]; exact hown8), HB10, hide (by have := hg8.size; simp at this; omega)⟩
              case measure => simp [intOf]; omega
          · have e1 : (way.tmod 3 == 0) = false := by rw [beq_eq_false_iff_ne]; exact h3
            by_cases hbig : p < 65536
            · have HW := hide (show Quo.saidWay way p = 1 by unfold Quo.saidWay; rw [if_neg (by omega), if_pos (by omega)])
              clear h3 hbig
              have hp6 : p < 65536 := by have := HW.out; unfold Quo.saidWay at this; split at this; · omega
                                         · split at this <;> omega
              have h64 : cp < 65536 := by have := HZ.out; omega
              have HSD := hide (said1 HW.out)
              obtain ⟨g, hg2⟩ : ∃ g : Bool, (way.tmod 2 == 0) = g := ⟨_, rfl⟩
              rw [hg2] at HSD
              go_wp2_with fail
              have H4 := four_any p g w7 hp6
              rw [← HZ.out] at H4
              refine Calls.mono H4 ?_
              rintro e w9 ⟨rfl, hb9⟩
              clear H4 h64
              rw [← HSD.out]
              have HB9 := hide (below_then HB7.out hb9)
              have HO9 := hide (own_on HO7.out hb9)
              have HS9 := hide (Nat.le_trans HS7.out hb9.size)
              clear hb9
              have z1 := row_size hcp.out (show l.length ≤ 60 by omega)
              have z2 := said_size HP.out way
              have HSN := hide (row_snoc l p way)
              have HA9 : Hid (Utf.allCp ((l ++ [(p, way)]).map Prod.fst)) := hide (fun q hq => by
                rw [List.map_append] at hq
                rcases List.mem_append.1 hq with h | h
                · exact hcp.out q h
                · simp at h; rw [h]; exact HP.out)
              generalize str (Quo.said way p) = T at *
              have hS9 := HS9.out
              have hS0 := HS0.out
              have hS1 := HS1.out
              go_wp2_with (at_builtin; go_loud (refine wpList_append_reads rfl (.tmp 97) (.tmp 99) _ rfl w0.heap.size 3 i0 (.int .i64 0) 1 8 Tryd.underlying26 hti hz0 hz1 hz2 rfl (by omega) u6 l.length (ints (zs (l.map Prod.fst))) rfl (HO9.out.alloc _) (w9.heap.size + 1) (some ⟨w9.heap.size, 0, none⟩) 1 1 [.int .i64 cp] rfl (Reads.one _ _ _) (by intro u hu; simp at hu; subst hu; rfl) (by unfold maxLen; omega) (by omega) (by simp; omega) ?_); intro v8 w8 hown8 hg8 hat8)
              rw [HZ.out] at hown8
              have HB10 := hide ((HB9.out.alloc (by omega) (.cells #[.int .i64 cp] 3)).grown hg8 (by simp; omega) fun q hq => by have := (HO9.out.lt q hq).1; omega)
              rw [HSN.out]
              go_roundw
              case rel => exact ⟨j + 1, l ++ [(p, way)], rfl, by go_num, by omega, by rw [List.length_append]; simp only [List.length_cons, List.length_nil]; omega, HA9, hide (by rw [List.length_append, List.map_append, show List.map Prod.fst [(p, way)] = [p] from rfl, zs_snoc]; exact hown8), HB10, hide (by have := hg8.size; simp at this; omega)⟩
              case measure => simp [intOf]; omega
            · have HW := hide (show Quo.saidWay way p = 2 by unfold Quo.saidWay; rw [if_neg (by omega), if_neg (by omega)])
              clear h3
              have h64 : ¬ cp < 65536 := by have := HZ.out; omega
              obtain ⟨hc2, qa, wb, qb, ha, hb'⟩ := pair_arith HZ.out (Nat.le_of_not_lt hbig) HP.out
              have HSD := hide (said2 HW.out)
              obtain ⟨g, hg2⟩ : ∃ g : Bool, (way.tmod 2 == 0) = g := ⟨_, rfl⟩
              obtain ⟨g', hg3⟩ : ∃ g : Bool, (way.tmod 5 == 0) = g := ⟨_, rfl⟩
              rw [hg2, hg3] at HSD
              have H4 := hide (four_any _ g w7 ha)
              have H5 := hide (fun W => four_any _ g' W hb')
              rw [← qa] at H4
              rw [← qb] at H5
              clear ha hb' qa qb hbig
              go_wp2_with fail
              refine Calls.mono H4.out ?_
              rintro e w9' ⟨rfl, hb9'⟩
              go_wp2_with fail
              refine Calls.mono (H5.out _) ?_
              rintro e w9 ⟨rfl, hb9⟩
              have HB9 := hide (below_then HB7.out (below_then hb9' hb9))
              have HO9 := hide (own_on HO7.out (below_then hb9' hb9))
              have HS9 := hide (Nat.le_trans HS7.out (below_then hb9' hb9).size)
              clear hb9 hb9' H4 H5 wb hc2 h64
              have hcatT : str (Quo.fourL (55296 + (p - 65536) / 1024) g) ++ str (Quo.fourL (56320 + (p - 65536) % 1024) g') = str (Quo.said way p) := by rw [str_cat, HSD.out]
              have z3 : (str (Quo.fourL (55296 + (p - 65536) / 1024) g)).size ≤ 6 := by rw [str_size]; exact Nat.le_refl _
              have z4 : (str (Quo.fourL (56320 + (p - 65536) % 1024) g')).size ≤ 6 := by rw [str_size]; exact Nat.le_refl _
              generalize str (Quo.fourL (55296 + (p - 65536) / 1024) g) = T1 at *
              generalize str (Quo.fourL (56320 + (p - 65536) % 1024) g') = T2 at *
              clear HSD
              have z1 := row_size hcp.out (show l.length ≤ 60 by omega)
              have z2 := said_size HP.out way
              have HSN := hide (row_snoc l p way)
              have HA9 : Hid (Utf.allCp ((l ++ [(p, way)]).map Prod.fst)) := hide (fun q hq => by
                rw [List.map_append] at hq
                rcases List.mem_append.1 hq with h | h
                · exact hcp.out q h
                · simp at h; rw [h]; exact HP.out)
              generalize str (Quo.said way p) = T at *
              have hS9 := HS9.out
              have hS0 := HS0.out
              have hS1 := HS1.out
              go_wp2_with (at_builtin; go_loud (refine wpList_append_reads rfl (.tmp 97) (.tmp 99) _ rfl w0.heap.size 3 i0 (.int .i64 0) 1 8 Tryd.underlying26 hti hz0 hz1 hz2 rfl (by omega) u6 l.length (ints (zs (l.map Prod.fst))) rfl (HO9.out.alloc _) (w9.heap.size + 1) (some ⟨w9.heap.size, 0, none⟩) 1 1 [.int .i64 cp] rfl (Reads.one _ _ _) (by intro u hu; simp at hu; subst hu; rfl) (by unfold maxLen; omega) (by omega) (by simp; omega) ?_); intro v8 w8 hown8 hg8 hat8)
              rw [HZ.out] at hown8
              have HB10 := hide ((HB9.out.alloc (by omega) (.cells #[.int .i64 cp] 3)).grown hg8 (by simp; omega) fun q hq => by have := (HO9.out.lt q hq).1; omega)
              rw [HSN.out]
              go_roundw
              case rel => exact ⟨j + 1, l ++ [(p, way)], rfl, by go_num, by omega, by rw [List.length_append]; simp only [List.length_cons, List.length_nil]; omega, HA9, hide (by rw [List.length_append, List.map_append, show List.map Prod.fst [(p, way)] = [p] from rfl, zs_snoc]; exact hown8), HB10, hide (by have := hg8.size; simp at this; omega)⟩
              case measure => simp [intOf]; omega
        · have hj2 : ¬ (j : Int) < (m : Int) := by omega
          obtain ⟨way, hway⟩ : ∃ way : Int, way = 0 := ⟨_, rfl⟩
          clear hjm
          go_wp2_with fail
          rw [← hway]
          clear hway
          go_wp2_with fail
          refine Calls.mono (Put_any none 0 0 cp [] _ (RB.empty _ _) (by omega)) ?_
          rintro e w7 ⟨hb7, he⟩
          rw [HPC.out, if_pos rfl, show cp.toNat = p by have := HZ.out; omega] at he
          obtain ⟨v7, rfl, ho7⟩ := he
          obtain ⟨A7, c7, rfl, _, _, hr7⟩ := own_slice ho7
          rw [List.nil_append, Nat.zero_add] at hr7
          have HR7 : Hid (RB w7 A7 (Utf.enc p).length (Utf.enc p)) := hide hr7
          have HB7 := hide (below_then hb.out hb7)
          have HO7 := hide (own_on hrow.out hb7)
          have HS7 := hide (Nat.le_trans hsz.out hb7.size)
          clear hb7 ho7 hr7
          by_cases h3 : way.tmod 3 = 0
          · have e1 : (way.tmod 3 == 0) = true := by rw [h3]; rfl
            by_cases h32 : 32 ≤ p
            · have e2 : (32 : Int) ≤ cp := by have := HZ.out; omega
              by_cases h34 : p = 34
              · have e3 : (cp != 34) = false := by rw [HZ.out, h34]; rfl
                have HW := hide (show Quo.saidWay way p = 1 by unfold Quo.saidWay; rw [if_neg (by omega), if_pos (by omega)])
                clear h3 h34
                have hp6 : p < 65536 := by have := HW.out; unfold Quo.saidWay at this; split at this; · omega
                                           · split at this <;> omega
                have h64 : cp < 65536 := by have := HZ.out; omega
                have HSD := hide (said1 HW.out)
                obtain ⟨g, hg2⟩ : ∃ g : Bool, (way.tmod 2 == 0) = g := ⟨_, rfl⟩
                rw [hg2] at HSD
                go_wp2_with fail
                have H4 := four_any p g w7 hp6
                rw [← HZ.out] at H4
                refine Calls.mono H4 ?_
                rintro e w9 ⟨rfl, hb9⟩
                clear H4 h64
                rw [← HSD.out]
                have HB9 := hide (below_then HB7.out hb9)
                have HO9 := hide (own_on HO7.out hb9)
                have HS9 := hide (Nat.le_trans HS7.out hb9.size)
                clear hb9
                have z1 := row_size hcp.out (show l.length ≤ 60 by omega)
                have z2 := said_size HP.out way
                have HSN := hide (row_snoc l p way)
                have HA9 : Hid (Utf.allCp ((l ++ [(p, way)]).map Prod.fst)) := hide (fun q hq => by
                  rw [List.map_append] at hq
                  rcases List.mem_append.1 hq with h | h
                  · exact hcp.out q h
                  · simp at h; rw [h]; exact HP.out)
                generalize str (Quo.said way p) = T at *
                have hS9 := HS9.out
                have hS0 := HS0.out
                have hS1 := HS1.out
                go_wp2_with (at_builtin; go_loud (refine wpList_append_reads rfl (.tmp 97) (.tmp 99) _ rfl w0.heap.size 3 i0 (.int .i64 0) 1 8 Tryd.underlying26 hti hz0 hz1 hz2 rfl (by omega) u6 l.length (ints (zs (l.map Prod.fst))) rfl (HO9.out.alloc _) (w9.heap.size + 1) (some ⟨w9.heap.size, 0, none⟩) 1 1 [.int .i64 cp] rfl (Reads.one _ _ _) (by intro u hu; simp at hu; subst hu; rfl) (by unfold maxLen; omega) (by omega) (by simp; omega) ?_); intro v8 w8 hown8 hg8 hat8)
                rw [HZ.out] at hown8
                have HB10 := hide ((HB9.out.alloc (by omega) (.cells #[.int .i64 cp] 3)).grown hg8 (by simp; omega) fun q hq => by have := (HO9.out.lt q hq).1; omega)
                rw [HSN.out]
                go_roundw
                case rel => exact ⟨j + 1, l ++ [(p, way)], rfl, by go_num, by omega, by rw [List.length_append]; simp only [List.length_cons, List.length_nil]; omega, HA9, hide (by rw [List.length_append, List.map_append, show List.map Prod.fst [(p, way)] = [p] from rfl, zs_snoc]; exact hown8), HB10, hide (by have := hg8.size; simp at this; omega)⟩
                case measure => simp [intOf]; omega
              · have e3 : (cp != 34) = true := by rw [bne_iff_ne]; have := HZ.out; omega
                by_cases h92 : p = 92
                · have e4 : (cp != 92) = false := by rw [HZ.out, h92]; rfl
                  have HW := hide (show Quo.saidWay way p = 1 by unfold Quo.saidWay; rw [if_neg (by omega), if_pos (by omega)])
                  clear h3 h92
                  have hp6 : p < 65536 := by have := HW.out; unfold Quo.saidWay at this; split at this; · omega
                                             · split at this <;> omega
                  have h64 : cp < 65536 := by have := HZ.out; omega
                  have HSD := hide (said1 HW.out)
                  obtain ⟨g, hg2⟩ : ∃ g : Bool, (way.tmod 2 == 0) = g := ⟨_, rfl⟩
                  rw [hg2] at HSD
                  go_wp2_with fail
                  have H4 := four_any p g w7 hp6
                  rw [← HZ.out] at H4
                  refine Calls.mono H4 ?_
                  rintro e w9 ⟨rfl, hb9⟩
                  clear H4 h64
                  rw [← HSD.out]
                  have HB9 := hide (below_then HB7.out hb9)
                  have HO9 := hide (own_on HO7.out hb9)
                  have HS9 := hide (Nat.le_trans HS7.out hb9.size)
                  clear hb9
                  have z1 := row_size hcp.out (show l.length ≤ 60 by omega)
                  have z2 := said_size HP.out way
                  have HSN := hide (row_snoc l p way)
                  have HA9 : Hid (Utf.allCp ((l ++ [(p, way)]).map Prod.fst)) := hide (fun q hq => by
                    rw [List.map_append] at hq
                    rcases List.mem_append.1 hq with h | h
                    · exact hcp.out q h
                    · simp at h; rw [h]; exact HP.out)
                  generalize str (Quo.said way p) = T at *
                  have hS9 := HS9.out
                  have hS0 := HS0.out
                  have hS1 := HS1.out
                  go_wp2_with (at_builtin; go_loud (refine wpList_append_reads rfl (.tmp 97) (.tmp 99) _ rfl w0.heap.size 3 i0 (.int .i64 0) 1 8 Tryd.underlying26 hti hz0 hz1 hz2 rfl (by omega) u6 l.length (ints (zs (l.map Prod.fst))) rfl (HO9.out.alloc _) (w9.heap.size + 1) (some ⟨w9.heap.size, 0, none⟩) 1 1 [.int .i64 cp] rfl (Reads.one _ _ _) (by intro u hu; simp at hu; subst hu; rfl) (by unfold maxLen; omega) (by omega) (by simp; omega) ?_); intro v8 w8 hown8 hg8 hat8)
                  rw [HZ.out] at hown8
                  have HB10 := hide ((HB9.out.alloc (by omega) (.cells #[.int .i64 cp] 3)).grown hg8 (by simp; omega) fun q hq => by have := (HO9.out.lt q hq).1; omega)
                  rw [HSN.out]
                  go_roundw
                  case rel => exact ⟨j + 1, l ++ [(p, way)], rfl, by go_num, by omega, by rw [List.length_append]; simp only [List.length_cons, List.length_nil]; omega, HA9, hide (by rw [List.length_append, List.map_append, show List.map Prod.fst [(p, way)] = [p] from rfl, zs_snoc]; exact hown8), HB10, hide (by have := hg8.size; simp at this; omega)⟩
                  case measure => simp [intOf]; omega
                · have e4 : (cp != 92) = true := by rw [bne_iff_ne]; have := HZ.out; omega
                  have HW := hide (show Quo.saidWay way p = 0 by unfold Quo.saidWay; rw [if_pos (by omega)])
                  clear h3
                  have HSD := hide (said0 HW.out)
                  have hcv := run_str (P := Tryd.prog) w7 29 9 5 A7 _ c7 _ HR7.out (by kernel_rfl) (by kernel_rfl) (by kernel_rfl)
                  rw [← HSD.out] at hcv ⊢
                  obtain ⟨w9, hw9⟩ : ∃ w9, w9 = w7 := ⟨_, rfl⟩
                  rw [← hw9] at hcv HB7 HO7 HS7 ⊢
                  have HB9 := HB7
                  have HO9 := HO7
                  have HS9 := HS7
                  clear hw9
                  have z1 := row_size hcp.out (show l.length ≤ 60 by omega)
                  have z2 := said_size HP.out way
                  have HSN := hide (row_snoc l p way)
                  have HA9 : Hid (Utf.allCp ((l ++ [(p, way)]).map Prod.fst)) := hide (fun q hq => by
                    rw [List.map_append] at hq
                    rcases List.mem_append.1 hq with h | h
                    · exact hcp.out q h
                    · simp at h; rw [h]; exact HP.out)
                  generalize str (Quo.said way p) = T at *
                  have hS9 := HS9.out
                  have hS0 := HS0.out
                  have hS1 := HS1.out
                  go_wp2_with (at_builtin; go_loud (refine wpList_append_reads rfl (.tmp 97) (.tmp 99) _ rfl w0.heap.size 3 i0 (.int .i64 0) 1 8 Tryd.underlying26 hti hz0 hz1 hz2 rfl (by omega) u6 l.length (ints (zs (l.map Prod.fst))) rfl (HO9.out.alloc _) (w9.heap.size + 1) (some ⟨w9.heap.size, 0, none⟩) 1 1 [.int .i64 cp] rfl (Reads.one _ _ _) (by intro u hu; simp at hu; subst hu; rfl) (by unfold maxLen; omega) (by omega) (by simp; omega) ?_); intro v8 w8 hown8 hg8 hat8)
                  rw [HZ.out] at hown8
                  have HB10 := hide ((HB9.out.alloc (by omega) (.cells #[.int .i64 cp] 3)).grown hg8 (by simp; omega) fun q hq => by have := (HO9.out.lt q hq).1; omega)
                  rw [HSN.out]
                  go_roundw
                  case rel => exact ⟨j + 1, l ++ [(p, way)], rfl, by go_num, by omega, by rw [List.length_append]; simp only [List.length_cons, List.length_nil]; omega, HA9, hide (by rw [List.length_append, List.map_append, show List.map Prod.fst [(p, way)] = [p] from rfl, zs_snoc]; exact hown8), HB10, hide (by have := hg8.size; simp at this; omega)⟩
                  case measure => simp [intOf]; omega
            · have e2 : ¬ (32 : Int) ≤ cp := by have := HZ.out; omega
              have HW := hide (show Quo.saidWay way p = 1 by unfold Quo.saidWay; rw [if_neg (by omega), if_pos (by omega)])
              clear h3
              have hp6 : p < 65536 := by have := HW.out; unfold Quo.saidWay at this; split at this; · omega
                                         · split at this <;> omega
              have h64 : cp < 65536 := by have := HZ.out; omega
              have HSD := hide (said1 HW.out)
              obtain ⟨g, hg2⟩ : ∃ g : Bool, (way.tmod 2 == 0) = g := ⟨_, rfl⟩
              rw [hg2] at HSD
              go_wp2_with fail
              have H4 := four_any p g w7 hp6
              rw [← HZ.out] at H4
              refine Calls.mono H4 ?_
              rintro e w9 ⟨rfl, hb9⟩
              clear H4 h64
              rw [← HSD.out]
              have HB9 := hide (below_then HB7.out hb9)
              have HO9 := hide (own_on HO7.out hb9)
              have HS9 := hide (Nat.le_trans HS7.out hb9.size)
              clear hb9
              have z1 := row_size hcp.out (show l.length ≤ 60 by omega)
              have z2 := said_size HP.out way
              have HSN := hide (row_snoc l p way)
              have HA9 : Hid (Utf.allCp ((l ++ [(p, way)]).map Prod.fst)) := hide (fun q hq => by
                rw [List.map_append] at hq
                rcases List.mem_append.1 hq with h | h
                · exact hcp.out q h
                · simp at h; rw [h]; exact HP.out)
              generalize str (Quo.said way p) = T at *
              have hS9 := HS9.out
              have hS0 := HS0.out
              have hS1 := HS1.out
              go_wp2_with (at_builtin; go_loud (refine wpList_append_reads rfl (.tmp 97) (.tmp 99) _ rfl w0.heap.size 3 i0 (.int .i64 0) 1 8 Tryd.underlying26 hti hz0 hz1 hz2 rfl (by omega) u6 l.length (ints (zs (l.map Prod.fst))) rfl (HO9.out.alloc _) (w9.heap.size + 1) (some ⟨w9.heap.size, 0, none⟩) 1 1 [.int .i64 cp] rfl (Reads.one _ _ _) (by intro u hu; simp at hu; subst hu; rfl) (by unfold maxLen; omega) (by omega) (by simp; omega) ?_); intro v8 w8 hown8 hg8 hat8)
              rw [HZ.out] at hown8
              have HB10 := hide ((HB9.out.alloc (by omega) (.cells #[.int .i64 cp] 3)).grown hg8 (by simp; omega) fun q hq => by have := (HO9.out.lt q hq).1; omega)
              rw [HSN.out]
              go_roundw
              case rel => exact ⟨j + 1, l ++ [(p, way)], rfl, by go_num, by omega, by rw [List.length_append]; simp only [List.length_cons, List.length_nil]; omega, HA9, hide (by rw [List.length_append, List.map_append, show List.map Prod.fst [(p, way)] = [p] from rfl, zs_snoc]; exact hown8), HB10, hide (by have := hg8.size; simp at this; omega)⟩
              case measure => simp [intOf]; omega
          · have e1 : (way.tmod 3 == 0) = false := by rw [beq_eq_false_iff_ne]; exact h3
            by_cases hbig : p < 65536
            · have HW := hide (show Quo.saidWay way p = 1 by unfold Quo.saidWay; rw [if_neg (by omega), if_pos (by omega)])
              clear h3 hbig
              have hp6 : p < 65536 := by have := HW.out; unfold Quo.saidWay at this; split at this; · omega
                                         · split at this <;> omega
              have h64 : cp < 65536 := by have := HZ.out; omega
              have HSD := hide (said1 HW.out)
              obtain ⟨g, hg2⟩ : ∃ g : Bool, (way.tmod 2 == 0) = g := ⟨_, rfl⟩
              rw [hg2] at HSD
              go_wp2_with fail
              have H4 := four_any p g w7 hp6
              rw [← HZ.out] at H4
              refine Calls.mono H4 ?_
              rintro e w9 ⟨rfl, hb9⟩
              clear H4 h64
              rw [← HSD.out]
              have HB9 := hide (below_then HB7.out hb9)
              have HO9 := hide (own_on HO7.out hb9)
              have HS9 := hide (Nat.le_trans HS7.out hb9.size)
              clear hb9
              have z1 := row_size hcp.out (show l.length ≤ 60 by omega)
              have z2 := said_size HP.out way
              have HSN := hide (row_snoc l p way)
              have HA9 : Hid (Utf.allCp ((l ++ [(p, way)]).map Prod.fst)) := hide (fun q hq => by
                rw [List.map_append] at hq
                rcases List.mem_append.1 hq with h | h
                · exact hcp.out q h
                · simp at h; rw [h]; exact HP.out)
              generalize str (Quo.said way p) = T at *
              have hS9 := HS9.out
              have hS0 := HS0.out
              have hS1 := HS1.out
              go_wp2_with (at_builtin; go_loud (refine wpList_append_reads rfl (.tmp 97) (.tmp 99) _ rfl w0.heap.size 3 i0 (.int .i64 0) 1 8 Tryd.underlying26 hti hz0 hz1 hz2 rfl (by omega) u6 l.length (ints (zs (l.map Prod.fst))) rfl (HO9.out.alloc _) (w9.heap.size + 1) (some ⟨w9.heap.size, 0, none⟩) 1 1 [.int .i64 cp] rfl (Reads.one _ _ _) (by intro u hu; simp at hu; subst hu; rfl) (by unfold maxLen; omega) (by omega) (by simp; omega) ?_); intro v8 w8 hown8 hg8 hat8)
              rw [HZ.out] at hown8
              have HB10 := hide ((HB9.out.alloc (by omega) (.cells #[.int .i64 cp] 3)).grown hg8 (by simp; omega) fun q hq => by have := (HO9.out.lt q hq).1; omega)
              rw [HSN.out]
              go_roundw
              case rel => exact ⟨j + 1, l ++ [(p, way)], rfl, by go_num, by omega, by rw [List.length_append]; simp only [List.length_cons, List.length_nil]; omega, HA9, hide (by rw [List.length_append, List.map_append, show List.map Prod.fst [(p, way)] = [p] from rfl, zs_snoc]; exact hown8), HB10, hide (by have := hg8.size; simp at this; omega)⟩
              case measure => simp [intOf]; omega
            · have HW := hide (show Quo.saidWay way p = 2 by unfold Quo.saidWay; rw [if_neg (by omega), if_neg (by omega)])
              clear h3
              have h64 : ¬ cp < 65536 := by have := HZ.out; omega
              obtain ⟨hc2, qa, wb, qb, ha, hb'⟩ := pair_arith HZ.out (Nat.le_of_not_lt hbig) HP.out
              have HSD := hide (said2 HW.out)
              obtain ⟨g, hg2⟩ : ∃ g : Bool, (way.tmod 2 == 0) = g := ⟨_, rfl⟩
              obtain ⟨g', hg3⟩ : ∃ g : Bool, (way.tmod 5 == 0) = g := ⟨_, rfl⟩
              rw [hg2, hg3] at HSD
              have H4 := hide (four_any _ g w7 ha)
              have H5 := hide (fun W => four_any _ g' W hb')
              rw [← qa] at H4
              rw [← qb] at H5
              clear ha hb' qa qb hbig
              go_wp2_with fail
              refine Calls.mono H4.out ?_
              rintro e w9' ⟨rfl, hb9'⟩
              go_wp2_with fail
              refine Calls.mono (H5.out _) ?_
              rintro e w9 ⟨rfl, hb9⟩
              have HB9 := hide (below_then HB7.out (below_then hb9' hb9))
              have HO9 := hide (own_on HO7.out (below_then hb9' hb9))
              have HS9 := hide (Nat.le_trans HS7.out (below_then hb9' hb9).size)
              clear hb9 hb9' H4 H5 wb hc2 h64
              have hcatT : str (Quo.fourL (55296 + (p - 65536) / 1024) g) ++ str (Quo.fourL (56320 + (p - 65536) % 1024) g') = str (Quo.said way p) := by rw [str_cat, HSD.out]
              have z3 : (str (Quo.fourL (55296 + (p - 65536) / 1024) g)).size ≤ 6 := by rw [str_size]; exact Nat.le_refl _
              have z4 : (str (Quo.fourL (56320 + (p - 65536) % 1024) g')).size ≤ 6 := by rw [str_size]; exact Nat.le_refl _
              generalize str (Quo.fourL (55296 + (p - 65536) / 1024) g) = T1 at *
              generalize str (Quo.fourL (56320 + (p - 65536) % 1024) g') = T2 at *
              clear HSD
              have z1 := row_size hcp.out (show l.length ≤ 60 by omega)
              have z2 := said_size HP.out way
              have HSN := hide (row_snoc l p way)
              have HA9 : Hid (Utf.allCp ((l ++ [(p, way)]).map Prod.fst)) := hide (fun q hq => by
                rw [List.map_append] at hq
                rcases List.mem_append.1 hq with h | h
                · exact hcp.out q h
                · simp at h; rw [h]; exact HP.out)
              generalize str (Quo.said way p) = T at *
              have hS9 := HS9.out
              have hS0 := HS0.out
              have hS1 := HS1.out
              go_wp2_with (at_builtin; go_loud (refine wpList_append_reads rfl (.tmp 97) (.tmp 99) _ rfl w0.heap.size 3 i0 (.int .i64 0) 1 8 Tryd.underlying26 hti hz0 hz1 hz2 rfl (by omega) u6 l.length (ints (zs (l.map Prod.fst))) rfl (HO9.out.alloc _) (w9.heap.size + 1) (some ⟨w9.heap.size, 0, none⟩) 1 1 [.int .i64 cp] rfl (Reads.one _ _ _) (by intro u hu; simp at hu; subst hu; rfl) (by unfold maxLen; omega) (by omega) (by simp; omega) ?_); intro v8 w8 hown8 hg8 hat8)
              rw [HZ.out] at hown8
              have HB10 := hide ((HB9.out.alloc (by omega) (.cells #[.int .i64 cp] 3)).grown hg8 (by simp; omega) fun q hq => by have := (HO9.out.lt q hq).1; omega)
              rw [HSN.out]
              go_roundw
              case rel => exact ⟨j + 1, l ++ [(p, way)], rfl, by go_num, by omega, by rw [List.length_append]; simp only [List.length_cons, List.length_nil]; omega, HA9, hide (by rw [List.length_append, List.map_append, show List.map Prod.fst [(p, way)] = [p] from rfl, zs_snoc]; exact hown8), HB10, hide (by have := hg8.size; simp at this; omega)⟩
              case measure => simp [intOf]; omega
    · obtain rfl : j = M := by omega
      obtain ⟨A6, c6, rfl, hc6, hm6, hr6⟩ := own_slice hrow.out
      have HR6 : Hid (RI wr A6 l.length (zs (l.map Prod.fst))) := hide hr6
      have hl60 : l.length ≤ 60 := by omega
      have hsl := Quo.saids_len l hcp.out
      obtain ⟨k, hk⟩ : ∃ k, k = (Quo.saids l).length + 2 := ⟨_, rfl⟩
      have hL : row l ++ ByteArray.mk #[34] = str (34 :: (Quo.saids l ++ [34])) := by unfold row; rw [show ByteArray.mk #[34] = str [34] from rfl, str_cat]; rfl
      have hLl : (34 :: (Quo.saids l ++ [34])).length = k := by rw [hk]; simp
      have HRS := hide (read_saids l hcp.out)
      rw [← hk] at HRS
      have HLE := hide (show (l.map Prod.fst).length = l.length from List.length_map ..)
      have HEL := hide (encs_le (l.map Prod.fst) hcp.out)
      obtain ⟨cB, w5, hconv, hrb5, hb5, hcB, hmB⟩ := conv_bytes (P := Tryd.prog) wr 9 29 5 (row l ++ ByteArray.mk #[34]) (34 :: (Quo.saids l ++ [34])) hL k hLl (by omega) (by kernel_rfl) (by kernel_rfl) (by kernel_rfl)
      have HRB := hide hrb5
      have HB5 := hide (below_then hb.out hb5)
      have HR5 := hide (HR6.out.on hb5)
      have hk720 : k ≤ 722 := by omega
      have z1 : (row l).size + 1 = k := by unfold row; rw [str_size, hk, List.length_cons]
      have HSZ := hide (show (row l ++ ByteArray.mk #[34]).size = k by rw [hL, str_size, hLl])
      clear hr6 hrb5 hb5 hk hLl hsl hL
      go_wp2_with fail
      refine Calls.mono (Read_any (some ⟨wr.heap.size, 0, none⟩) k cB (34 :: (Quo.saids l ++ [34])) 0 _ HRB.out hcB (by omega) (HG.out.on HB5.out)) ?_
      rintro e w6 ⟨rfl, hb6⟩
      rw [HRS.out]
      unfold readV
      dsimp only
      have HB6 := hide (below_then HB5.out hb6)
      have HR6' := hide (HR5.out.on hb6)
      obtain ⟨ps, hps⟩ : ∃ ps, ps = l.map Prod.fst := ⟨_, rfl⟩
      rw [← hps] at HR6' HLE HEL ⊢
      have HCP : Hid (Utf.allCp ps) := hide (by rw [hps]; exact hcp.out)
      have hel : (Utf.encs ps).length ≤ 240 := by have h1 := HEL.out; have h2 := HLE.out; rw [h2] at h1; omega
      obtain ⟨LL, hLL⟩ : ∃ LL, LL = l.length := ⟨_, rfl⟩
      rw [← hLL] at HR6' HLE ⊢
      have hLL60 : LL ≤ 60 := by omega
      have hsz1 := HSZ.out
      generalize row l ++ ByteArray.mk #[34] = T at *
      clear hb6 hps HR5 HRB hconv hcp hrow hmB hLL z1 hlj HEL HRS HR6 hl60 HSZ
      go_wp2_with fail
      refine Calls.mono (Points_any (Utf.encs ps) _ (by omega) (HG.out.on HB6.out)) ?_
      rintro e w7 ⟨hb7, he⟩
      rw [Utf.scan_text ps HCP.out, if_pos rfl] at he
      obtain ⟨A7, c7, rfl, hr7, hc7, hm7⟩ := he
      dsimp only at hr7 ⊢
      rw [HLE.out] at hr7 ⊢
      have HR7 := hide (HR6'.out.on hb7)
      have HI7 := hide hr7
      have HB7 := hide (below_then HB6.out hb7)
      have hkk : ((k : Int) == (k : Int)) = true := by simp
      clear hb7 hr7 HR6'
      go_wp2_with fail
      refine Calls.mono (equal_ints A7 A6 LL LL c7 c6 (zs ps) (zs ps) _ HI7.out HR7.out (by omega) (by omega)) ?_
      rintro e w8 ⟨rfl, hb8⟩
      rw [decide_eq_true rfl]
      go_wp2_with fail
      go_ret
      exact ⟨by first | rfl | simp, below_then HB7.out hb8⟩
/-! ### the row's step, written by program after the guide's skeleton -/
theorem own : ownKnob Tryd.prog.godebug = none := by kernel_rfl
theorem laidOut : laidOutB Tryd.prog = true := by kernel_rfl
set_option maxRecDepth 100000 in
theorem lifted (os : Os) (started : os.Started) (H : Type) (enc : TypeId × Value → H) :
    ReturnsInHanded {} Tryd.checked os 9 .any (fun w args => (Rows.quoteSaidSpec.pre enc Tryd.prog Tryd.f9 [] false w args ∧ laidMetH Tryd.prog laidP w) ∧ sizedMet enc Tryd.prog Tryd.f9 (OpenSpec.ofChange Rows.quoteSaidSpec) false w args) (Rows.quoteSaidSpec.post enc Tryd.prog Tryd.f9 false true false false) := by
  refine returnsInHanded_of_change_and (C := Tryd.checked) (X := fun w _ => laidMetH Tryd.prog laidP w) (fun _ _ _ hh h => h.of_heap hh) own started (by kernel_rfl) Tryd.func9
    (ChangeSpec.witness_shaped (enc := enc) (C := Tryd.checked) (os := os) (X := fun w _ => laidMetH Tryd.prog laidP w) false (World.laidAll Tryd.prog os laidP) #[.slice none 0 0, .slice none 0 0] 8 (World.laidAll_os _ _ _) (World.shaped_of_ZipB (by kernel_rfl) (by kernel_rfl)) (by kernel_rfl) (by kernel_rfl) (by kernel_rfl) (by rw [MakeChecks.laidMetH_plain _ _ _ (by kernel_rfl)]; exact laidMet_laidAll _ (by kernel_rfl) (by kernel_rfl))) ?_
  intro W base args ds gs before hval0 hW _ _ hL _
  have hGl := gl_of_pin hL
  have hval : ∀ (j : Nat) t v, Tryd.f9.params[j]? = some t → args[j]? = some v → Value.okWide Tryd.prog W .any base t v := hval0
  have hW' := hW
  obtain ⟨p, q, hA0, hV, rfl, hfz, hnd⟩ := hW
  have hA : DataW.TrodAll enc Tryd.prog W 0 (fun _ => true) true Tryd.f9.params.toList args.toList ds p := hA0
  rw [Tryd.params9] at hA hval
  obtain ⟨v0, vs0, d0, ds0, p0, q0, hargs, rfl, rfl, h0, r0⟩ := trodAll_cons hA
  obtain ⟨v1, vs1, d1, ds1, p1, q1, rfl, rfl, rfl, h1, r1⟩ := trodAll_cons r0
  obtain ⟨rfl, rfl, rfl⟩ := trodAll_nil r1
  obtain rfl : args = #[v0, v1] := by cases args; simp_all
  obtain ⟨rfl, rfl⟩ := trodVars_none hV
  have k0 := h0
  have lt0 := trod_lt' k0
  obtain ⟨a0, n0, c0, l0, rfl, w0⟩ := arg_ints Tryd.underlying26 Tryd.underlying3 (by kernel_rfl) (hval 0 26 v0 rfl rfl) h0
  have k1 := h1
  have lt1 := trod_lt' k1
  obtain ⟨a1, n1, c1, l1, rfl, w1⟩ := arg_ints Tryd.underlying26 Tryd.underlying3 (by kernel_rfl) (hval 1 26 v1 rfl rfl) h1
  clear hA0 hval0
  refine (walk a0 n0 c0 l0 a1 n1 c1 l1 W w0 w1 hGl).mono fun e W' ⟨he, bel⟩ => ?_
  subst he
  exact ⟨_, rfl, _, _, _, [], _, [], hW', trodAll_mk1 (shut_bool Tryd.underlying4 _), (trodAll_cons_mk (Below.trod laidOut (by kernel_rfl) (of_decide_eq_true (by kernel_rfl)) k0 bel lt0) (trodAll_cons_mk (Below.trod laidOut (by kernel_rfl) (of_decide_eq_true (by kernel_rfl)) k1 bel lt1) trodAll_mk0)), rfl, bel.frame _, fun h => by cases h⟩

theorem over : Rows.quoteSaidRow.holds Tryd.pinned (OpenSpec.ofChange Rows.quoteSaidSpec) :=
  OpenClaim.holds_of_wide 9 Tryd.f9 rfl rfl rfl rfl rfl rfl rfl ⟨rfl, rfl, rfl, rfl, rfl⟩ rfl rfl rfl rfl rfl (by kernel_rfl) Tryd.func9 (by kernel_rfl)
    (of_decide_eq_true (by kernel_rfl)) (by unfold Func.isWrapper; first | (rw [if_pos (by decide +kernel)]; kernel_rfl) | (rw [if_neg (by decide +kernel)]; exact ⟨rfl, rfl⟩))
    (fun os started H enc _ => lifted os started H enc)

/-- the tied card, closed by the builder -/
theorem proved : Rows.QuoteSaidCardSaid :=
  Claim7.holds_tied_plain_at .later [] [.data, .data, .pinned, .pinned] true (true, "29c9f16f4bc01fd59de145b946254e99b4688103a1f01d14b61d294ae7025dbc") false
    over (fun _ h => by cases h) (by kernel_rfl) (fun _ h => by cases h) quoteSaid_row_tie rfl ⟨rfl, rfl⟩ (by kernel_rfl) rfl
    (fun f fn hf hfn => by
      obtain rfl : f = 9 := Option.some.inj ((show Tryd.prog.funcNamed "davenport/davenportlaw02.QuoteSaid" = some 9 by kernel_rfl).symm.trans hf) |>.symm
      obtain rfl : fn = Tryd.f9 := (Option.some.inj (Tryd.func9.symm.trans hfn)).symm
      exact ⟨by kernel_rfl, fun j t ht => by
        rw [Tryd.params9] at ht
        rcases j with _ | j
        · obtain rfl : 26 = t := by simpa using ht
          exact (show Tryd.prog.wantsStandIn 26 = false by kernel_rfl)
        rcases j with _ | j
        · obtain rfl : 26 = t := by simpa using ht
          exact (show Tryd.prog.wantsStandIn 26 = false by kernel_rfl)
        · simp at ht⟩)
    (by kernel_rfl)
end Go.Proofs.YtbnibiealnogdaaDoor.LawQuoteSaid
