/- The walk of quote's Print, and of Size. -/
import Derived.Test.YtbnibiealnogdaaDoorQuoLay
import Derived.Test.YtbnibiealnogdaaDoorQuoUtf8
namespace Go.Proofs.YtbnibiealnogdaaDoor
open Go.RowKit Go.Shelf Go.Sort

def quoted (ps : List Nat) : List UInt8 := 34 :: (Quo.items ps ++ [34])
/-- what Print answers -/
def printV (l : List UInt8) : Value := if (Utf.scan l).2 = l.length then .tuple #[.string (str (quoted (Utf.scan l).1)), .int .i64 0] else .tuple #[.string (ByteArray.mk #[]), .int .i64 110]
theorem LayI.first (w : World) : LayI (w.heap.size + 1) w.heap.size [34] ((w.alloc (.cells #[.int .u8 34] 5)).alloc (.cells #[.slice (some ⟨w.heap.size, 0, none⟩) 1 1] 29)) := by
  refine ⟨.slice (some ⟨w.heap.size, 0, none⟩) 1 1, ?_, rfl, .inr ⟨w.heap.size, 1, #[.int .u8 34], rfl, Nat.le_refl _, ?_, ?_⟩⟩
  · have := Boxed.new (w.alloc (.cells #[.int .u8 34] 5)) 29 (.slice (some ⟨w.heap.size, 0, none⟩) 1 1)
    rwa [World.size_alloc] at this
  · exact below_obj (heap_alloc_new w _) (below_alloc _ _)
  · simp [bytes, maxLen]
theorem isCp_small {p : Nat} (h : Utf.isCp (p : Int) = true) : p ≤ 1114111 := by have := Utf.isCp_iff.1 h; omega
-- LEMMAS
theorem plets_at0 (W : World) : (Instr.index 62 lettersV (.int .i64 0)).run Tryd.prog W = .ok (.agg #[.int .u8 34, .int .u8 34]) W := by kernel_rfl
theorem plets_at1 (W : World) : (Instr.index 62 lettersV (.int .i64 1)).run Tryd.prog W = .ok (.agg #[.int .u8 92, .int .u8 92]) W := by kernel_rfl
theorem plets_at2 (W : World) : (Instr.index 62 lettersV (.int .i64 2)).run Tryd.prog W = .ok (.agg #[.int .u8 47, .int .u8 47]) W := by kernel_rfl
theorem plets_at3 (W : World) : (Instr.index 62 lettersV (.int .i64 3)).run Tryd.prog W = .ok (.agg #[.int .u8 98, .int .u8 8]) W := by kernel_rfl
theorem plets_at4 (W : World) : (Instr.index 62 lettersV (.int .i64 4)).run Tryd.prog W = .ok (.agg #[.int .u8 102, .int .u8 12]) W := by kernel_rfl
theorem plets_at5 (W : World) : (Instr.index 62 lettersV (.int .i64 5)).run Tryd.prog W = .ok (.agg #[.int .u8 110, .int .u8 10]) W := by kernel_rfl
theorem plets_at6 (W : World) : (Instr.index 62 lettersV (.int .i64 6)).run Tryd.prog W = .ok (.agg #[.int .u8 114, .int .u8 13]) W := by kernel_rfl
theorem plets_at7 (W : World) : (Instr.index 62 lettersV (.int .i64 7)).run Tryd.prog W = .ok (.agg #[.int .u8 116, .int .u8 9]) W := by kernel_rfl
theorem low_hex : ∀ r (h : r < 16), (ByteArray.mk #[48, 49, 50, 51, 52, 53, 54, 55, 56, 57, 97, 98, 99, 100, 101, 102])[r]'h = Quo.hexd r := by decide
theorem low_digit : ∀ d : Nat, d < 2 → 48 + (d : Int) = ((Quo.hexd d).toNat : Int) := by decide
theorem low_facts {p : Nat} (h : p < 32) : ∃ d : Nat, (p : Int) % 256 = (p : Int) ∧ (p : Int) / 16 = (d : Int) ∧ (p : Int).tdiv 16 = (d : Int) ∧ (p : Int).tmod 16 = ((p % 16 : Nat) : Int) ∧ p % 16 < 16 ∧ 48 + (d : Int) = ((Quo.hexd (p / 16)).toNat : Int) :=
  ⟨p / 16, by omega, by omega, by rw [Int.tdiv_eq_ediv_of_nonneg (by omega)]; omega, by rw [Int.tmod_eq_emod_of_nonneg (by omega)]; omega, by omega, low_digit _ (by omega)⟩
theorem low_cells {p d : Nat} (h : p % 16 < (ByteArray.mk #[48, 49, 50, 51, 52, 53, 54, 55, 56, 57, 97, 98, 99, 100, 101, 102]).size) (hd : 48 + (d : Int) = ((Quo.hexd (p / 16)).toNat : Int)) :
    (#[Value.int .u8 92, .int .u8 117, .int .u8 48, .int .u8 48, .int .u8 (48 + (d : Int)), .int .u8 (((ByteArray.mk #[48, 49, 50, 51, 52, 53, 54, 55, 56, 57, 97, 98, 99, 100, 101, 102])[p % 16]'h).toNat : Int)] : Array Value).toList = bytes [92, 117, 48, 48, Quo.hexd (p / 16), Quo.hexd (p % 16)] := by
  rw [hd, low_hex (p % 16) h]
  rfl
theorem conv_rune (W : World) (p : Nat) : (convert 21 9 (.int .i32 (p : Int))).run Tryd.prog W = .ok (.string (Utf8.encode (p : Int))) W := by
  go_simp
/-- no letter up to the j-th says it (the third is not written) -/
def NoSig (p : Nat) (j : Nat) : Prop := ∀ m, m < j → m ≠ 2 → p ≠ [34, 92, 47, 8, 12, 10, 13, 9].getD m 0
theorem NoSig.step {p j : Nat} (h : NoSig p j) (hj : j ≠ 2 → p ≠ [34, 92, 47, 8, 12, 10, 13, 9].getD j 0) : NoSig p (j + 1) := fun m hm h2 => by
  by_cases he : m = j
  · rw [he]; exact hj (by omega)
  · exact h m (by omega) h2
theorem NoSig.all {p : Nat} (h : NoSig p 8) : Quo.sig p = none := by
  unfold Quo.sig
  rw [if_neg (show ¬ p = 34 from h 0 (by omega) (by omega)), if_neg (show ¬ p = 92 from h 1 (by omega) (by omega)), if_neg (show ¬ p = 8 from h 3 (by omega) (by omega)), if_neg (show ¬ p = 12 from h 4 (by omega) (by omega)), if_neg (show ¬ p = 10 from h 5 (by omega) (by omega)), if_neg (show ¬ p = 13 from h 6 (by omega) (by omega)), if_neg (show ¬ p = 9 from h 7 (by omega) (by omega))]
def posOf (W : World) (k : Nat) : Nat := match W.heap[k]? with
  | some (.stringIter _ p) => p
  | _ => 0
theorem posOf_at {W : World} {k p : Nat} {s : ByteArray} (h : W.heap[k]? = some (.stringIter s p)) : posOf W k = p := by unfold posOf; rw [h]
theorem LayI.iterAt {H n0 k pos pos' : Nat} {s : ByteArray} {out : List UInt8} {W : World} (h : LayI H n0 out W) (hk : W.heap[k]? = some (.stringIter s pos)) : LayI H n0 out (W.iterAt k s pos') := by
  obtain ⟨v, hv, h1, h2⟩ := h
  have hkb : H ≠ k := by
    intro e
    have h3 : W.heap[H]? = _ := hv
    rw [e, hk] at h3
    cases h3
  refine ⟨v, (Lib.iterAt_other W k H s pos' hkb).trans hv, h1, ?_⟩
  rcases h2 with hn | ⟨g, cap, cur, he, hb, hg, rest⟩
  · exact .inl hn
  · refine .inr ⟨g, cap, cur, he, hb, (Lib.iterAt_other W k g s pos' ?_).trans hg, rest⟩
    intro e
    rw [e, hk] at hg
    cases hg
theorem items_snoc (a : List Nat) (p : Nat) : 34 :: Quo.items (a ++ [p]) = (34 :: Quo.items a) ++ Quo.item p := by
  rw [Quo.items_append, show Quo.items [p] = Quo.item p by rw [Quo.items_cons, Quo.items_nil, List.append_nil]]; rfl
theorem encs_snoc_len (a : List Nat) (p : Nat) : (Utf.encs (a ++ [p])).length = (Utf.encs a).length + (Utf.enc p).length := by
  rw [Utf.encs_append, List.length_append, show Utf.encs [p] = Utf.enc p by rw [Utf.encs_cons, Utf.encs_nil, List.append_nil]]
theorem items_len {a : List Nat} (h : Utf.allCp a) : (Quo.items a).length ≤ 6 * (Utf.encs a).length := by
  induction a with
  | nil => simp [Quo.items_nil, Utf.encs_nil]
  | cons p a ih =>
    have h1 := ih fun q hq => h q (by simp [hq])
    have h2 := Quo.item_six (h p (by simp))
    have h3 := Utf.enc_pos p
    rw [Quo.items_cons, Utf.encs_cons, List.length_append, List.length_append]
    omega
-- END LEMMAS
set_option maxRecDepth 100000 in
set_option maxHeartbeats 8000000 in
theorem Print_any (l : List UInt8) (w : World) (hn : l.length ≤ 10000) (hg : Gl w) :
    Calls Tryd.prog 11 #[.string (str l)] w fun e w' => e = .returned (printV l) ∧ Below w.heap.size w w' := by
  have HC := hide (Check_any l w (by omega) hg)
  have hmf : ∀ (fn : Fn) (first cap : Array Value) (w : World), (Instr.makeFunc fn first cap).run Tryd.prog w = .ok (.func fn first cap) w := fun _ _ _ _ => rfl
  obtain ⟨s, hs⟩ : ∃ s, s = str l := ⟨_, rfl⟩
  rw [← hs] at HC ⊢
  have HS := hide hs
  clear hs
  by_cases hyes : (Utf.scan l).2 = l.length
  · have HV := hide (show printV l = .tuple #[.string (str (quoted (Utf.scan l).1)), .int .i64 0] by unfold printV; rw [if_pos hyes])
    have HK := hide (show chkV l = .tuple #[.int .i64 0, .int .i64 0] by unfold chkV; rw [if_pos hyes])
    have HL := hide (show l = Utf.encs (Utf.scan l).1 by
      obtain ⟨_, h2, h3, _, _⟩ := Utf.scan_all l
      rwa [List.drop_eq_nil_of_le (by omega), List.append_nil] at h2)
    have HCP := hide (Utf.scan_all l).1
    obtain ⟨ps, hps⟩ : ∃ ps, ps = (Utf.scan l).1 := ⟨_, rfl⟩
    rw [← hps] at HV HL HCP
    clear hyes hps
    go_enter Tryd.func11, Tryd.ntmps11
    go_wp2_with fail
    go_step3
    go_wp2_with fail
    refine Calls.mono HC.out ?_
    rintro e w1 ⟨rfl, hb1⟩
    rw [HK.out]
    go_wp2_with fail
    -- MAIN
    have HB1 := hide hb1
    have hI2 := LayI.first w1
    have hb2 := below_then (below_alloc w1 (.cells #[.int .u8 34] 5)) (below_alloc (w1.alloc (.cells #[.int .u8 34] 5)) (.cells #[.slice (some ⟨w1.heap.size, 0, none⟩) 1 1] 29))
    generalize (w1.alloc (.cells #[.int .u8 34] 5)).alloc (.cells #[.slice (some ⟨w1.heap.size, 0, none⟩) 1 1] 29) = W2 at *
    have HI2 := hide hI2
    have HB2 := hide hb2
    have HLEN := hide (show (Utf.encs ps).length ≤ 10000 by rw [← HL.out]; exact hn)
    have HSZ := hide (show s.size = (Utf.encs ps).length by rw [HS.out, str_size, HL.out])
    have HSE := hide (show s = str (Utf.encs ps) by rw [HS.out]; exact congrArg str HL.out)
    clear hb1 hI2 hb2 hg
    go_step3
    go_wp2_with fail
    go_loopw [9] (fun _ wr => ∃ a b : List Nat, Hid (ps = a ++ b) ∧ Hid (LayI (w1.heap.size + 1) w1.heap.size (34 :: Quo.items a) wr) ∧ Hid (wr.heap[W2.heap.size]? = some (.stringIter s (Utf.encs a).length)) ∧ Hid (Below w1.heap.size w1 wr)) (fun _ wr => s.size - posOf wr W2.heap.size)
    case atStart => exact ⟨[], ps, hide rfl, hide (HI2.out.on (below_alloc _ _)), hide (World.iter_heap W2 s 0), hide (below_then HB2.out (below_alloc _ _))⟩
    case round =>
      obtain ⟨a, b, hab, hI, hit, hbw⟩ := hrel
      cases b with
      | nil =>
        have hpe : ps = a := by rw [hab.out, List.append_nil]
        have hnx := fun ty => Lib.run_next_end_at (P := Tryd.prog) wr W2.heap.size s (Utf.encs a).length ty hit.out (by rw [HSZ.out, hpe]; omega)
        have HPE := hide hpe
        have HIL := hide (items_len HCP.out)
        clear hpe
        go_wp2_with fail
        have hb3 := below_alloc wr (.cells #[.int .u8 34] 5)
        have HB3 := hide (below_then hbw.out hb3)
        refine Calls.mono (lay_any (w1.heap.size + 1) w1.heap.size (some ⟨wr.heap.size, 0, none⟩) 1 1 [34] (34 :: Quo.items a) _ (hI.out.on hb3) (by omega) (RB.lit wr 5 #[.int .u8 34] [34] 1 rfl rfl) (by have := HIL.out; rw [HPE.out] at this; have := HLEN.out; rw [HPE.out] at this; rw [List.length_cons]; omega)) ?_
        rintro e w4 ⟨⟨v4, rfl⟩, hI4, _, hb4⟩
        obtain ⟨out5, ho5⟩ : ∃ out5, out5 = (34 :: Quo.items a) ++ [(34 : UInt8)] := ⟨_, rfl⟩
        rw [← ho5] at hI4
        obtain ⟨v5, hv5, hrow5⟩ := hI4
        obtain ⟨A5, c5, rfl, _, _, hr5⟩ := own_slice hrow5
        have hcell5 := hv5.cell
        have hcv := run_str (P := Tryd.prog) w4 29 9 5 A5 out5.length c5 out5 hr5 (by kernel_rfl) (by kernel_rfl) (by kernel_rfl)
        have HB4 := hide (HB3.out.trans hb4)
        have HV2 := hide (show printV l = .tuple #[.string (str out5), .int .i64 0] by rw [HV.out, HPE.out, ho5]; rfl)
        obtain ⟨S, hS⟩ : ∃ S, S = str out5 := ⟨_, rfl⟩
        rw [← hS] at hcv HV2
        clear hrow5 hr5 hv5 hb3 hb4 hS hnx ho5
        go_wp2_with fail
        rw [Exit.noGoto_ret]
        go_ret2
        exact ⟨by rw [HV2.out]; rfl, below_then HB1.out HB4.out⟩
      | cons p b =>
        have hps : Utf.isCp (p : Int) = true := HCP.out p (by rw [hab.out]; simp)
        have hdr : (Utf.encs ps).drop (Utf.encs a).length = Utf.enc p ++ Utf.encs b := by rw [hab.out, Utf.encs_append, Utf.encs_cons, List.drop_left]
        have hlt : (Utf.encs a).length + (Utf.enc p).length ≤ (Utf.encs ps).length := by rw [hab.out, Utf.encs_append, Utf.encs_cons, List.length_append, List.length_append]; omega
        have hnx := fun ty => Lib.run_next_any_at (P := Tryd.prog) wr W2.heap.size s (Utf.encs a).length ty hit.out (by have := Utf.enc_pos p; rw [HSZ.out]; omega)
        rw [HSE.out, decode_str hps hdr, ← HSE.out] at hnx
        simp only at hnx
        have hI2 := hI.out.iterAt (pos' := (Utf.encs a).length + (Utf.enc p).length) hit.out
        have hit2 := Lib.iterAt_heap wr W2.heap.size s (Utf.encs a).length ((Utf.encs a).length + (Utf.enc p).length) hit.out
        have hb2 := Lib.below_iterAt hbw.out (k := W2.heap.size) HB2.out.size s ((Utf.encs a).length + (Utf.enc p).length)
        have HAB := hide (show ps = (a ++ [p]) ++ b by rw [hab.out, List.append_assoc]; rfl)
        have HPS := hide hps
        have HM := hide (show s.size - ((Utf.encs a).length + (Utf.enc p).length) < s.size - (Utf.encs a).length by have := Utf.enc_pos p; have := HSZ.out; omega)
        have HIL := hide (show (34 :: Quo.items a).length ≤ 60001 by
          have h1 : Utf.allCp a := fun q hq => HCP.out q (by rw [hab.out]; simp [hq])
          have := items_len h1
          have := HLEN.out
          rw [List.length_cons]; omega)
        have hlen4 := (isCp_small hps)
        generalize wr.iterAt W2.heap.size s ((Utf.encs a).length + (Utf.enc p).length) = V at *
        have HI3 := hide hI2
        have HT3 := hide hit2
        have HB3 := hide hb2
        clear hps hdr hlt hI2 hit2 hb2
        go_wp2_with fail
        refine Calls.mono (letters_any _) ?_
        rintro e w3 ⟨rfl, hb3⟩
        have HI4 := hide (HI3.out.on hb3)
        have HT4 := hide (below_obj HT3.out hb3)
        have HB4 := hide (below_then HB3.out hb3)
        clear hb3 hnx
        go_wp2_with fail
        have hi0 := plets_at0
        have hi1 := plets_at1
        have hi2 := plets_at2
        have hi3 := plets_at3
        have hi4 := plets_at4
        have hi5 := plets_at5
        have hi6 := plets_at6
        have hi7 := plets_at7
        go_loopw [28] (fun i wr => ∃ j : Nat, j ≤ 8 ∧ i = .int .i64 (j : Int) ∧ Hid (NoSig p j) ∧ Hid (LayI (w1.heap.size + 1) w1.heap.size (34 :: Quo.items a) wr) ∧ Hid (wr.heap[W2.heap.size]? = some (.stringIter s ((Utf.encs a).length + (Utf.enc p).length))) ∧ Hid (Below w1.heap.size w1 wr)) (fun i _ => 8 - (intOf i).toNat)
        case atStart => exact ⟨0, by omega, rfl, hide (fun m hm => absurd hm (by omega)), HI4, HT4, HB4⟩
        case round =>
          clear HI3 HT3 HB3 HI4 HT4 HB4
          obtain ⟨j, hj, rfl, hs, hI4, hT4, hB4⟩ := hrel
          by_cases h0 : j = 0
          · subst h0
            by_cases hh : p = 34
            · have ht : ((p : Int) == 34) = true := by rw [hh]; rfl
              have HIT := hide (show Quo.item p = [92, 34] from Quo.item_sig (by rw [hh]; rfl))
              clear hh
              go_wp2_with fail
              have hb6 := below_then (below_alloc wr (.cells #[.int .u8 34, .int .u8 34] 61)) (below_alloc _ (.cells #[.int .u8 92, .int .u8 34] 5))
              have hrl : RB ((wr.alloc (.cells #[.int .u8 34, .int .u8 34] 61)).alloc (.cells #[.int .u8 92, .int .u8 34] 5)) (some ⟨wr.heap.size + 1, 0, none⟩) 2 [92, 34] := by
                have h := RB.lit (wr.alloc (.cells #[.int .u8 34, .int .u8 34] 61)) 5 #[.int .u8 92, .int .u8 34] [92, 34] 2 (fr := (0, 0)) rfl rfl
                first | exact h | rwa [World.size_alloc] at h
              refine Calls.mono (lay_any (w1.heap.size + 1) w1.heap.size (some ⟨wr.heap.size + 1, 0, none⟩) 2 2 [92, 34] (34 :: Quo.items a) _ (hI4.out.on hb6) (by omega) hrl (by have := HIL.out; omega)) ?_
              rintro e w6 ⟨⟨v6, rfl⟩, hI6, hk6, hb7⟩
              have HI6 := hide (show LayI (w1.heap.size + 1) w1.heap.size (34 :: Quo.items (a ++ [p])) w6 by rw [items_snoc, HIT.out]; exact hI6)
              have HT6 := hide (show w6.heap[W2.heap.size]? = some (.stringIter s (Utf.encs (a ++ [p])).length) by rw [encs_snoc_len]; exact hk6.same _ _ (below_obj hT4.out hb6) rfl)
              have HB6 := hide ((below_then hB4.out hb6).trans hb7)
              clear hI6 hk6 hb6 hb7 hrl
              go_wp2_with fail
              go_roundw
              case rel => exact ⟨a ++ [p], b, HAB, HI6, HT6, HB6⟩
              case measure => rw [posOf_at HT6.out, posOf_at hit.out, encs_snoc_len]; exact HM.out
            · have ht : ((p : Int) == 34) = false := by rw [beq_eq_false_iff_ne]; omega
              have HS2 := hide (hs.out.step (j := 0) (fun _ => hh))
              clear hh
              go_wp2_with fail
              exact ⟨⟨1, by omega, rfl, HS2, hide (hI4.out.on (below_alloc _ _)), hide (below_obj hT4.out (below_alloc _ _)), hide (below_then hB4.out (below_alloc _ _))⟩, by simp [intOf]⟩
          · skip
            by_cases h1 : j = 1
            · subst h1
              by_cases hh : p = 92
              · have ht : ((p : Int) == 92) = true := by rw [hh]; rfl
                have HIT := hide (show Quo.item p = [92, 92] from Quo.item_sig (by rw [hh]; rfl))
                clear hh
                go_wp2_with fail
                have hb6 := below_then (below_alloc wr (.cells #[.int .u8 92, .int .u8 92] 61)) (below_alloc _ (.cells #[.int .u8 92, .int .u8 92] 5))
                have hrl : RB ((wr.alloc (.cells #[.int .u8 92, .int .u8 92] 61)).alloc (.cells #[.int .u8 92, .int .u8 92] 5)) (some ⟨wr.heap.size + 1, 0, none⟩) 2 [92, 92] := by
                  have h := RB.lit (wr.alloc (.cells #[.int .u8 92, .int .u8 92] 61)) 5 #[.int .u8 92, .int .u8 92] [92, 92] 2 (fr := (0, 0)) rfl rfl
                  first | exact h | rwa [World.size_alloc] at h
                refine Calls.mono (lay_any (w1.heap.size + 1) w1.heap.size (some ⟨wr.heap.size + 1, 0, none⟩) 2 2 [92, 92] (34 :: Quo.items a) _ (hI4.out.on hb6) (by omega) hrl (by have := HIL.out; omega)) ?_
                rintro e w6 ⟨⟨v6, rfl⟩, hI6, hk6, hb7⟩
                have HI6 := hide (show LayI (w1.heap.size + 1) w1.heap.size (34 :: Quo.items (a ++ [p])) w6 by rw [items_snoc, HIT.out]; exact hI6)
                have HT6 := hide (show w6.heap[W2.heap.size]? = some (.stringIter s (Utf.encs (a ++ [p])).length) by rw [encs_snoc_len]; exact hk6.same _ _ (below_obj hT4.out hb6) rfl)
                have HB6 := hide ((below_then hB4.out hb6).trans hb7)
                clear hI6 hk6 hb6 hb7 hrl
                go_wp2_with fail
                go_roundw
                case rel => exact ⟨a ++ [p], b, HAB, HI6, HT6, HB6⟩
                case measure => rw [posOf_at HT6.out, posOf_at hit.out, encs_snoc_len]; exact HM.out
              · have ht : ((p : Int) == 92) = false := by rw [beq_eq_false_iff_ne]; omega
                have HS2 := hide (hs.out.step (j := 1) (fun _ => hh))
                clear hh
                go_wp2_with fail
                exact ⟨⟨2, by omega, rfl, HS2, hide (hI4.out.on (below_alloc _ _)), hide (below_obj hT4.out (below_alloc _ _)), hide (below_then hB4.out (below_alloc _ _))⟩, by simp [intOf]⟩
            · skip
              by_cases h2 : j = 2
              · subst h2
                have HS2 := hide (hs.out.step (j := 2) (fun h => absurd rfl h))
                by_cases hh : p = 47
                · have ht : ((p : Int) == 47) = true := by rw [hh]; rfl
                  clear hh
                  go_wp2_with fail
                  exact ⟨⟨3, by omega, rfl, HS2, hide (hI4.out.on (below_alloc _ _)), hide (below_obj hT4.out (below_alloc _ _)), hide (below_then hB4.out (below_alloc _ _))⟩, by simp [intOf]⟩
                · have ht : ((p : Int) == 47) = false := by rw [beq_eq_false_iff_ne]; omega
                  clear hh
                  go_wp2_with fail
                  exact ⟨⟨3, by omega, rfl, HS2, hide (hI4.out.on (below_alloc _ _)), hide (below_obj hT4.out (below_alloc _ _)), hide (below_then hB4.out (below_alloc _ _))⟩, by simp [intOf]⟩
              · skip
                by_cases h3 : j = 3
                · subst h3
                  by_cases hh : p = 8
                  · have ht : ((p : Int) == 8) = true := by rw [hh]; rfl
                    have HIT := hide (show Quo.item p = [92, 98] from Quo.item_sig (by rw [hh]; rfl))
                    clear hh
                    go_wp2_with fail
                    have hb6 := below_then (below_alloc wr (.cells #[.int .u8 98, .int .u8 8] 61)) (below_alloc _ (.cells #[.int .u8 92, .int .u8 98] 5))
                    have hrl : RB ((wr.alloc (.cells #[.int .u8 98, .int .u8 8] 61)).alloc (.cells #[.int .u8 92, .int .u8 98] 5)) (some ⟨wr.heap.size + 1, 0, none⟩) 2 [92, 98] := by
                      have h := RB.lit (wr.alloc (.cells #[.int .u8 98, .int .u8 8] 61)) 5 #[.int .u8 92, .int .u8 98] [92, 98] 2 (fr := (0, 0)) rfl rfl
                      first | exact h | rwa [World.size_alloc] at h
                    refine Calls.mono (lay_any (w1.heap.size + 1) w1.heap.size (some ⟨wr.heap.size + 1, 0, none⟩) 2 2 [92, 98] (34 :: Quo.items a) _ (hI4.out.on hb6) (by omega) hrl (by have := HIL.out; omega)) ?_
                    rintro e w6 ⟨⟨v6, rfl⟩, hI6, hk6, hb7⟩
                    have HI6 := hide (show LayI (w1.heap.size + 1) w1.heap.size (34 :: Quo.items (a ++ [p])) w6 by rw [items_snoc, HIT.out]; exact hI6)
                    have HT6 := hide (show w6.heap[W2.heap.size]? = some (.stringIter s (Utf.encs (a ++ [p])).length) by rw [encs_snoc_len]; exact hk6.same _ _ (below_obj hT4.out hb6) rfl)
                    have HB6 := hide ((below_then hB4.out hb6).trans hb7)
                    clear hI6 hk6 hb6 hb7 hrl
                    go_wp2_with fail
                    go_roundw
                    case rel => exact ⟨a ++ [p], b, HAB, HI6, HT6, HB6⟩
                    case measure => rw [posOf_at HT6.out, posOf_at hit.out, encs_snoc_len]; exact HM.out
                  · have ht : ((p : Int) == 8) = false := by rw [beq_eq_false_iff_ne]; omega
                    have HS2 := hide (hs.out.step (j := 3) (fun _ => hh))
                    clear hh
                    go_wp2_with fail
                    exact ⟨⟨4, by omega, rfl, HS2, hide (hI4.out.on (below_alloc _ _)), hide (below_obj hT4.out (below_alloc _ _)), hide (below_then hB4.out (below_alloc _ _))⟩, by simp [intOf]⟩
                · skip
                  by_cases h4 : j = 4
                  · subst h4
                    by_cases hh : p = 12
                    · have ht : ((p : Int) == 12) = true := by rw [hh]; rfl
                      have HIT := hide (show Quo.item p = [92, 102] from Quo.item_sig (by rw [hh]; rfl))
                      clear hh
                      go_wp2_with fail
                      have hb6 := below_then (below_alloc wr (.cells #[.int .u8 102, .int .u8 12] 61)) (below_alloc _ (.cells #[.int .u8 92, .int .u8 102] 5))
                      have hrl : RB ((wr.alloc (.cells #[.int .u8 102, .int .u8 12] 61)).alloc (.cells #[.int .u8 92, .int .u8 102] 5)) (some ⟨wr.heap.size + 1, 0, none⟩) 2 [92, 102] := by
                        have h := RB.lit (wr.alloc (.cells #[.int .u8 102, .int .u8 12] 61)) 5 #[.int .u8 92, .int .u8 102] [92, 102] 2 (fr := (0, 0)) rfl rfl
                        first | exact h | rwa [World.size_alloc] at h
                      refine Calls.mono (lay_any (w1.heap.size + 1) w1.heap.size (some ⟨wr.heap.size + 1, 0, none⟩) 2 2 [92, 102] (34 :: Quo.items a) _ (hI4.out.on hb6) (by omega) hrl (by have := HIL.out; omega)) ?_
                      rintro e w6 ⟨⟨v6, rfl⟩, hI6, hk6, hb7⟩
                      have HI6 := hide (show LayI (w1.heap.size + 1) w1.heap.size (34 :: Quo.items (a ++ [p])) w6 by rw [items_snoc, HIT.out]; exact hI6)
                      have HT6 := hide (show w6.heap[W2.heap.size]? = some (.stringIter s (Utf.encs (a ++ [p])).length) by rw [encs_snoc_len]; exact hk6.same _ _ (below_obj hT4.out hb6) rfl)
                      have HB6 := hide ((below_then hB4.out hb6).trans hb7)
                      clear hI6 hk6 hb6 hb7 hrl
                      go_wp2_with fail
                      go_roundw
                      case rel => exact ⟨a ++ [p], b, HAB, HI6, HT6, HB6⟩
                      case measure => rw [posOf_at HT6.out, posOf_at hit.out, encs_snoc_len]; exact HM.out
                    · have ht : ((p : Int) == 12) = false := by rw [beq_eq_false_iff_ne]; omega
                      have HS2 := hide (hs.out.step (j := 4) (fun _ => hh))
                      clear hh
                      go_wp2_with fail
                      exact ⟨⟨5, by omega, rfl, HS2, hide (hI4.out.on (below_alloc _ _)), hide (below_obj hT4.out (below_alloc _ _)), hide (below_then hB4.out (below_alloc _ _))⟩, by simp [intOf]⟩
                  · skip
                    by_cases h5 : j = 5
                    · subst h5
                      by_cases hh : p = 10
                      · have ht : ((p : Int) == 10) = true := by rw [hh]; rfl
                        have HIT := hide (show Quo.item p = [92, 110] from Quo.item_sig (by rw [hh]; rfl))
                        clear hh
                        go_wp2_with fail
                        have hb6 := below_then (below_alloc wr (.cells #[.int .u8 110, .int .u8 10] 61)) (below_alloc _ (.cells #[.int .u8 92, .int .u8 110] 5))
                        have hrl : RB ((wr.alloc (.cells #[.int .u8 110, .int .u8 10] 61)).alloc (.cells #[.int .u8 92, .int .u8 110] 5)) (some ⟨wr.heap.size + 1, 0, none⟩) 2 [92, 110] := by
                          have h := RB.lit (wr.alloc (.cells #[.int .u8 110, .int .u8 10] 61)) 5 #[.int .u8 92, .int .u8 110] [92, 110] 2 (fr := (0, 0)) rfl rfl
                          first | exact h | rwa [World.size_alloc] at h
                        refine Calls.mono (lay_any (w1.heap.size + 1) w1.heap.size (some ⟨wr.heap.size + 1, 0, none⟩) 2 2 [92, 110] (34 :: Quo.items a) _ (hI4.out.on hb6) (by omega) hrl (by have := HIL.out; omega)) ?_
                        rintro e w6 ⟨⟨v6, rfl⟩, hI6, hk6, hb7⟩
                        have HI6 := hide (show LayI (w1.heap.size + 1) w1.heap.size (34 :: Quo.items (a ++ [p])) w6 by rw [items_snoc, HIT.out]; exact hI6)
                        have HT6 := hide (show w6.heap[W2.heap.size]? = some (.stringIter s (Utf.encs (a ++ [p])).length) by rw [encs_snoc_len]; exact hk6.same _ _ (below_obj hT4.out hb6) rfl)
                        have HB6 := hide ((below_then hB4.out hb6).trans hb7)
                        clear hI6 hk6 hb6 hb7 hrl
                        go_wp2_with fail
                        go_roundw
                        case rel => exact ⟨a ++ [p], b, HAB, HI6, HT6, HB6⟩
                        case measure => rw [posOf_at HT6.out, posOf_at hit.out, encs_snoc_len]; exact HM.out
                      · have ht : ((p : Int) == 10) = false := by rw [beq_eq_false_iff_ne]; omega
                        have HS2 := hide (hs.out.step (j := 5) (fun _ => hh))
                        clear hh
                        go_wp2_with fail
                        exact ⟨⟨6, by omega, rfl, HS2, hide (hI4.out.on (below_alloc _ _)), hide (below_obj hT4.out (below_alloc _ _)), hide (below_then hB4.out (below_alloc _ _))⟩, by simp [intOf]⟩
                    · skip
                      by_cases h6 : j = 6
                      · subst h6
                        by_cases hh : p = 13
                        · have ht : ((p : Int) == 13) = true := by rw [hh]; rfl
                          have HIT := hide (show Quo.item p = [92, 114] from Quo.item_sig (by rw [hh]; rfl))
                          clear hh
                          go_wp2_with fail
                          have hb6 := below_then (below_alloc wr (.cells #[.int .u8 114, .int .u8 13] 61)) (below_alloc _ (.cells #[.int .u8 92, .int .u8 114] 5))
                          have hrl : RB ((wr.alloc (.cells #[.int .u8 114, .int .u8 13] 61)).alloc (.cells #[.int .u8 92, .int .u8 114] 5)) (some ⟨wr.heap.size + 1, 0, none⟩) 2 [92, 114] := by
                            have h := RB.lit (wr.alloc (.cells #[.int .u8 114, .int .u8 13] 61)) 5 #[.int .u8 92, .int .u8 114] [92, 114] 2 (fr := (0, 0)) rfl rfl
                            first | exact h | rwa [World.size_alloc] at h
                          refine Calls.mono (lay_any (w1.heap.size + 1) w1.heap.size (some ⟨wr.heap.size + 1, 0, none⟩) 2 2 [92, 114] (34 :: Quo.items a) _ (hI4.out.on hb6) (by omega) hrl (by have := HIL.out; omega)) ?_
                          rintro e w6 ⟨⟨v6, rfl⟩, hI6, hk6, hb7⟩
                          have HI6 := hide (show LayI (w1.heap.size + 1) w1.heap.size (34 :: Quo.items (a ++ [p])) w6 by rw [items_snoc, HIT.out]; exact hI6)
                          have HT6 := hide (show w6.heap[W2.heap.size]? = some (.stringIter s (Utf.encs (a ++ [p])).length) by rw [encs_snoc_len]; exact hk6.same _ _ (below_obj hT4.out hb6) rfl)
                          have HB6 := hide ((below_then hB4.out hb6).trans hb7)
                          clear hI6 hk6 hb6 hb7 hrl
                          go_wp2_with fail
                          go_roundw
                          case rel => exact ⟨a ++ [p], b, HAB, HI6, HT6, HB6⟩
                          case measure => rw [posOf_at HT6.out, posOf_at hit.out, encs_snoc_len]; exact HM.out
                        · have ht : ((p : Int) == 13) = false := by rw [beq_eq_false_iff_ne]; omega
                          have HS2 := hide (hs.out.step (j := 6) (fun _ => hh))
                          clear hh
                          go_wp2_with fail
                          exact ⟨⟨7, by omega, rfl, HS2, hide (hI4.out.on (below_alloc _ _)), hide (below_obj hT4.out (below_alloc _ _)), hide (below_then hB4.out (below_alloc _ _))⟩, by simp [intOf]⟩
                      · skip
                        by_cases h7 : j = 7
                        · subst h7
                          by_cases hh : p = 9
                          · have ht : ((p : Int) == 9) = true := by rw [hh]; rfl
                            have HIT := hide (show Quo.item p = [92, 116] from Quo.item_sig (by rw [hh]; rfl))
                            clear hh
                            go_wp2_with fail
                            have hb6 := below_then (below_alloc wr (.cells #[.int .u8 116, .int .u8 9] 61)) (below_alloc _ (.cells #[.int .u8 92, .int .u8 116] 5))
                            have hrl : RB ((wr.alloc (.cells #[.int .u8 116, .int .u8 9] 61)).alloc (.cells #[.int .u8 92, .int .u8 116] 5)) (some ⟨wr.heap.size + 1, 0, none⟩) 2 [92, 116] := by
                              have h := RB.lit (wr.alloc (.cells #[.int .u8 116, .int .u8 9] 61)) 5 #[.int .u8 92, .int .u8 116] [92, 116] 2 (fr := (0, 0)) rfl rfl
                              first | exact h | rwa [World.size_alloc] at h
                            refine Calls.mono (lay_any (w1.heap.size + 1) w1.heap.size (some ⟨wr.heap.size + 1, 0, none⟩) 2 2 [92, 116] (34 :: Quo.items a) _ (hI4.out.on hb6) (by omega) hrl (by have := HIL.out; omega)) ?_
                            rintro e w6 ⟨⟨v6, rfl⟩, hI6, hk6, hb7⟩
                            have HI6 := hide (show LayI (w1.heap.size + 1) w1.heap.size (34 :: Quo.items (a ++ [p])) w6 by rw [items_snoc, HIT.out]; exact hI6)
                            have HT6 := hide (show w6.heap[W2.heap.size]? = some (.stringIter s (Utf.encs (a ++ [p])).length) by rw [encs_snoc_len]; exact hk6.same _ _ (below_obj hT4.out hb6) rfl)
                            have HB6 := hide ((below_then hB4.out hb6).trans hb7)
                            clear hI6 hk6 hb6 hb7 hrl
                            go_wp2_with fail
                            go_roundw
                            case rel => exact ⟨a ++ [p], b, HAB, HI6, HT6, HB6⟩
                            case measure => rw [posOf_at HT6.out, posOf_at hit.out, encs_snoc_len]; exact HM.out
                          · have ht : ((p : Int) == 9) = false := by rw [beq_eq_false_iff_ne]; omega
                            have HS2 := hide (hs.out.step (j := 7) (fun _ => hh))
                            clear hh
                            go_wp2_with fail
                            exact ⟨⟨8, by omega, rfl, HS2, hide (hI4.out.on (below_alloc _ _)), hide (below_obj hT4.out (below_alloc _ _)), hide (below_then hB4.out (below_alloc _ _))⟩, by simp [intOf]⟩
                        · skip
                          obtain rfl : j = 8 := by omega
                          have HN := hide (NoSig.all hs.out)
                          by_cases hlow : p < 32
                          · have q1 : (p : Int) < 32 := by omega
                            have HIT := hide (Quo.item_low HN.out hlow)
                            obtain ⟨d, e2, e3, e4, e6, e7, e5⟩ := low_facts hlow
                            have hlt2 : p % 16 < (ByteArray.mk #[48, 49, 50, 51, 52, 53, 54, 55, 56, 57, 97, 98, 99, 100, 101, 102]).size := e7
                            have e9 : (0 : Int) ≤ ((p % 16 : Nat) : Int) := by omega
                            have e10 : ((p % 16 : Nat) : Int) < 16 := by omega
                            have HCELL := hide (low_cells hlt2 e5)
                            clear e5 hlow
                            go_wp2_with fail
                            refine Calls.mono (lay_any (w1.heap.size + 1) w1.heap.size (some ⟨wr.heap.size, 0, none⟩) 6 6 (Quo.item p) (34 :: Quo.items a) _ (hI4.out.on (below_alloc wr _)) (by omega) (RB.lit wr 5 _ (Quo.item p) 6 (by rw [HIT.out]; rfl) (by rw [HIT.out]; exact HCELL.out)) (by have := HIL.out; omega)) ?_
                            have hb6 := below_alloc wr (.cells #[Value.int .u8 92, .int .u8 117, .int .u8 48, .int .u8 48, .int .u8 (48 + (d : Int)), .int .u8 (((ByteArray.mk #[48, 49, 50, 51, 52, 53, 54, 55, 56, 57, 97, 98, 99, 100, 101, 102])[p % 16]'hlt2).toNat : Int)] 5)
                            rintro e w6 ⟨⟨v6, rfl⟩, hI6, hk6, hb7⟩
                            have HI6 := hide (show LayI (w1.heap.size + 1) w1.heap.size (34 :: Quo.items (a ++ [p])) w6 by rw [items_snoc]; exact hI6)
                            have HT6 := hide (show w6.heap[W2.heap.size]? = some (.stringIter s (Utf.encs (a ++ [p])).length) by rw [encs_snoc_len]; exact hk6.same _ _ (below_obj hT4.out hb6) rfl)
                            have HB6 := hide ((below_then hB4.out hb6).trans hb7)
                            clear hI6 hk6 hb6 hb7
                            go_wp2_with fail
                            go_roundw
                            case rel => exact ⟨a ++ [p], b, HAB, HI6, HT6, HB6⟩
                            case measure => rw [posOf_at HT6.out, posOf_at hit.out, encs_snoc_len]; exact HM.out
                          · have q1 : ¬ (p : Int) < 32 := by omega
                            have HIT := hide (Quo.item_enc HN.out hlow)
                            obtain ⟨m, hm⟩ : ∃ m, m = (Utf.enc p).length := ⟨_, rfl⟩
                            obtain ⟨E, hE⟩ : ∃ E, E = str (Utf.enc p) := ⟨_, rfl⟩
                            have hm4 : m ≤ 4 := by rw [hm, Utf.enc_len HPS.out]; exact Utf.sz_le _
                            have henc : ∀ W, (convert 21 9 (.int .i32 (p : Int))).run Tryd.prog W = .ok (.string E) W := fun W => by
                              rw [hE, ← encode_str HPS.out]
                              exact conv_rune W p
                            obtain ⟨cB, w5, hconv, hrb5, hb5, hcB, hmB⟩ := conv_bytes (P := Tryd.prog) wr 9 29 5 E (Utf.enc p) hE m hm.symm (by omega) (by kernel_rfl) (by kernel_rfl) (by kernel_rfl)
                            have HM5 := hide hm
                            clear hE hlow hm
                            go_wp2_with fail
                            refine Calls.mono (lay_any (w1.heap.size + 1) w1.heap.size _ m cB (Utf.enc p) (34 :: Quo.items a) _ (hI4.out.on hb5) (by omega) hrb5 (by have := HIL.out; omega)) ?_
                            rintro e w6 ⟨⟨v6, rfl⟩, hI6, hk6, hb7⟩
                            have HI6 := hide (show LayI (w1.heap.size + 1) w1.heap.size (34 :: Quo.items (a ++ [p])) w6 by rw [items_snoc, HIT.out]; exact hI6)
                            have HT6 := hide (show w6.heap[W2.heap.size]? = some (.stringIter s (Utf.encs (a ++ [p])).length) by rw [encs_snoc_len]; exact hk6.same _ _ (below_obj hT4.out hb5) rfl)
                            have HB6 := hide ((below_then hB4.out hb5).trans hb7)
                            clear hI6 hk6 hb5 hb7 hrb5 hconv henc
                            go_wp2_with fail
                            go_roundw
                            case rel => exact ⟨a ++ [p], b, HAB, HI6, HT6, HB6⟩
                            case measure => rw [posOf_at HT6.out, posOf_at hit.out, encs_snoc_len]; exact HM.out
  · have HV := hide (show printV l = .tuple #[.string (ByteArray.mk #[]), .int .i64 110] by unfold printV; rw [if_neg hyes])
    have HK := hide (show chkV l = .tuple #[.int .i64 ((Utf.scan l).2 : Int), .int .i64 110] by unfold chkV; rw [if_neg hyes])
    clear hyes
    go_enter Tryd.func11, Tryd.ntmps11
    go_wp2_with fail
    go_step3
    go_wp2_with fail
    refine Calls.mono HC.out ?_
    rintro e w1 ⟨rfl, hb1⟩
    rw [HK.out]
    go_wp2_with fail
    rw [Exit.noGoto_ret]
    go_ret2
    exact ⟨by rw [HV.out]; rfl, hb1⟩
end Go.Proofs.YtbnibiealnogdaaDoor
