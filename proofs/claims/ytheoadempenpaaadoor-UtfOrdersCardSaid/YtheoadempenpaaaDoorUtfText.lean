/- The walk of utf's Text: a range over a function in a loop (each round leaves a mark among the deferred calls). -/
import Derived.Test.YtheoadempenpaaaDoorUtfPut
import Derived.Test.YtheoadempenpaaaDoorUtfThrough
namespace Go.Proofs.YtheoadempenpaaaDoor
open Go.RowKit Go.Shelf Go.Sort
attribute [local go_sem] Oper.semAt_some

def mark (D : Nat) : Deferred := { target := .collected D, args := #[] }
/-- the blocks of the marks -/
def Marks (B : Nat) (Ds : List Nat) (W : World) : Prop := Ds.Nodup ∧ ∀ D ∈ Ds, B ≤ D ∧ W.heap[D]? = some (.deferred (some []))
/-- whatever is cells lies on -/
def Shut (B : Nat) (W W' : World) : Prop := Below B W W' ∧ ∀ (b : Nat) (o : Obj), W.heap[b]? = some o → o.isCells = true → W'.heap[b]? = some o
theorem leaves_marks {F : Fence} {n : Nat} {P : Program} {fn : Func} {tmps : Array Value} {R : Ending → World → Prop} {B : Nat} : ∀ (Ds : List Nat) (W : World), Marks B Ds W →
    (∀ W', Shut B W W' → LeavesIn F n P fn tmps R [] .returning W') → LeavesInM F n P fn tmps R (Ds.map mark) .returning W
  | [], W, _, h => h W ⟨Below.refl _ _, fun _ _ h _ => h⟩
  | D :: Ds, W, hm, h => by
    obtain ⟨hB, hD⟩ := hm.2 D (by simp)
    have hlt := (Array.getElem?_eq_some_iff.1 hD).1
    have hm2 : Marks B Ds (W.putObj D (.deferred none)) := ⟨(List.nodup_cons.1 hm.1).2, fun D' hD' => by
      have hne : D' ≠ D := fun e => (List.nodup_cons.1 hm.1).1 (e ▸ hD')
      rw [World.putObj_heap_other hne]
      exact hm.2 D' (by simp [hD'])⟩
    refine ⟨by simp, .inl ⟨D, _, rfl, run_takeDeferred hD, ?_⟩⟩
    refine leaves_marks (B := B) Ds _ hm2 fun W' hs => h W' ⟨?_, fun b o hb hc => hs.2 b o ?_ hc⟩
    · exact ((Below.refl B W).grown (grownBy_putObj' W D (.deferred none)) (by omega) (fun k e => by cases e; omega)).trans hs.1
    · rw [World.putObj_heap_other (fun e => by subst e; rw [hD] at hb; cases hb; cases hc)]
      exact hb
theorem Shut.row {B : Nat} {W W' : World} (h : Shut B W W') {base : Nat} {e : TypeId} {size n : Nat} {v : Value} {xs : List Value} (ho : W.ownsRow base e size v n xs) : W'.ownsRow base e size v n xs := by
  refine ⟨ho.1, ?_⟩
  rcases ho.2 with hn | ⟨g, cap, cur, rfl, hb, hg, rest⟩
  · exact .inl hn
  · exact .inr ⟨g, cap, cur, rfl, hb, h.2 g _ hg rfl, rest⟩
theorem encs_le (ps : List Nat) (h : Utf.allCp ps) : (Utf.encs ps).length ≤ 4 * ps.length := by
  induction ps with
  | nil => simp [Utf.encs]
  | cons p ps ih =>
    have h1 := Utf.enc_len (h p (by simp))
    have h2 := Utf.sz_le (p : Int)
    have h3 := ih fun q hq => h q (by simp [hq])
    rw [Utf.encs_cons, List.length_append, List.length_cons]; omega
/-- what Text answers -/
def textV (x : List Int) : Value := if x.all Utf.isCp = true then .tuple #[.string (str (Utf.encs (x.map Int.toNat))), .int .i64 0] else .tuple #[.string (ByteArray.mk #[]), .int .i64 110]
theorem text_no {x : List Int} {j : Nat} (hj : j < x.length) (h : ¬ Utf.isCp x[j] = true) : textV x = .tuple #[.string (ByteArray.mk #[]), .int .i64 110] :=
  if_neg fun ha => h (List.all_eq_true.1 ha _ (List.getElem_mem hj))
theorem zs_toNat : ∀ ps : List Nat, (zs ps).map Int.toNat = ps
  | [] => rfl
  | p :: ps => by show (p : Int).toNat :: (zs ps).map Int.toNat = _; rw [zs_toNat ps, Int.toNat_natCast]
theorem text_yes {x : List Int} {ps : List Nat} (h : x = zs ps) (hc : Utf.allCp ps) : textV x = .tuple #[.string (str (Utf.encs ps)), .int .i64 0] := by
  subst h
  have h1 : (zs ps).all Utf.isCp = true := by
    rw [List.all_eq_true]
    intro z hz
    obtain ⟨p, hp, rfl⟩ := List.mem_map.1 hz
    exact hc p hp
  have h2 := zs_toNat ps
  unfold textV
  rw [if_pos h1, h2]
/-- the marks, below C too -/
def MarksU (B C : Nat) (Ds : List Nat) (W : World) : Prop := Ds.Nodup ∧ ∀ D ∈ Ds, B ≤ D ∧ D < C ∧ W.heap[D]? = some (.deferred (some []))
theorem ownFrom_marks {β : Type} (B C C' : Nat) (Ds : List Nat) (hC : C ≤ C') : OwnFrom C' (fun (_ : β) W => MarksU B C Ds W) := fun s W W' row hs hg hr =>
  ⟨hs.1, fun D hD => by
    obtain ⟨h1, h2, h3⟩ := hs.2 D hD
    refine ⟨h1, h2, (hg.block D (Array.getElem?_eq_some_iff.1 h3).1 fun e => ?_).trans h3⟩
    have := (hr D e.symm).1
    omega⟩
set_option maxHeartbeats 8000000 in
theorem Text_any (A : Option Addr) (n c : Nat) (x : List Int) (w : World) (hA : RI w A n x) (hn : n ≤ 1000) :
    Calls Tryd.prog 15 #[.slice A n c] w fun e w' => e = .returned (textV x) ∧ Below w.heap.size w w' := by
  obtain ⟨i0, hi, hz0, hz1, hz2⟩ := info_parts u8_info
  have HL := hide hA.len
  have HA := hide hA
  have HN := hide hn
  clear hA
  refine (callsIn_wide (n := 9)).1 ?_
  refine callsIn_of_wp_marks Tryd.func15 rfl trivial ?_ rfl
  simp only [Tryd.ntmps15, List.size_toArray, List.length_cons, List.length_nil, Nat.reduceAdd, Nat.reduceSub, Array.replicate_succ, Array.replicate_zero, List.push_toArray, List.append_toArray, List.nil_append, List.cons_append]
  gi_wp2
  refine wpIn_loop (fun a W => ∃ (j : Nat) (Ds ps : List Nat) (v u6 u11 u12 u13 u14 u15 u16 u17 u18 u24 : Value), a = { tmps := #[.slice A n c, undef, .string (ByteArray.mk #[]), .int .i64 0, .pointer (some ⟨w.heap.size, 0, none⟩), undef, u6, undef, .slice A n c, .int .i64 (n : Int), .int .i64 (j : Int), u11, u12, u13, u14, u15, u16, u17, u18, undef, undef, undef, undef, undef, u24, undef, undef], defers := Ds.map mark } ∧ j ≤ n ∧ ps.length = j ∧ Hid (x.take j = zs ps ∧ Utf.allCp ps) ∧ Hid (Boxed W w.heap.size 24 v) ∧ Hid (W.ownsRow w.heap.size 5 1 v (Utf.encs ps).length (bytes (Utf.encs ps))) ∧ Hid (Marks w.heap.size Ds W) ∧ Hid (Below w.heap.size w W))
    (fun a _ => n - (intOf (a.tmps.getD 10 undef)).toNat) ?start ?round
  case start =>
    exact ⟨0, [], [], .slice none 0 0, undef, undef, undef, undef, undef, undef, undef, undef, undef, undef, rfl, Nat.zero_le _, rfl, hide ⟨by simp [zs], fun p hp => by cases hp⟩, hide (Boxed.new w _ _), hide (World.ownsRow_nil _ _ _ _), hide ⟨List.nodup_nil, fun D hD => by cases hD⟩, hide (below_alloc w _)⟩
  case round =>
    rintro a W ⟨j, Ds, ps, v, u6, u11, u12, u13, u14, u15, u16, u17, u18, u24, rfl, hj, hps, hx, hv, ho, hm, hb⟩
    by_cases hlt : j < n
    · have hjl : j < x.length := by rw [HL.out]; exact hlt
      obtain ⟨b, o, rfl, _, hc⟩ := (HA.out.on hb.out).cell hjl
      have hj0 : (0 : Int) ≤ (j : Int) := by omega
      have hj1 : (j : Int) < (n : Int) := by omega
      by_cases hcp : Utf.isCp x[j] = true
      · have HX2 : Hid (∃ p : Nat, x[j] = (p : Int) ∧ Utf.isCp (p : Int) = true ∧ x.take (j + 1) = zs (ps ++ [p])) := hide (by
          have h0 := Utf.isCp_iff.1 hcp
          refine ⟨x[j].toNat, by omega, by rw [Int.toNat_of_nonneg h0.1]; exact hcp, ?_⟩
          rw [List.take_succ_eq_append_getElem hjl, hx.out.1]
          unfold zs
          rw [List.map_append, List.map_cons, List.map_nil, Int.toNat_of_nonneg h0.1])
        obtain ⟨p, hp1, hp2, hp3⟩ := HX2.out
        rw [hp1] at hc
        have hsz : ((Utf.sz p : Int) == 0) = false := by rw [beq_eq_false_iff_ne]; have := Utf.sz_pos.2 hp2; omega
        have HP := hide (And.intro hp2 hp3)
        have HE := hide (encs_le ps hx.out.2)
        clear hcp hp1 hp2 hp3 HX2
        gi_wp2_with (first | (refine ⟨trivial, ?_⟩; gi_at_call 29; refine (callsIn_wide.2 (size_any (p : Int) _)).mono ?_; rintro e W ⟨rfl, rfl⟩) | (refine ⟨trivial, ?_⟩; gi_at_call 34; refine (callsIn_wide.2 (bytes_any p _)).mono ?_; rintro e w' ⟨rfl, rfl⟩))
        have bP := (Boxed.new W 55 (.int .i64 (p : Int))).alloc (.cells #[.int .i64 (Utf.sz p : Nat)] 3)
        have bN := Boxed.new (W.alloc (.cells #[.int .i64 (p : Int)] 55)) 3 (.int .i64 (Utf.sz p : Nat))
        rw [World.size_alloc] at bN
        have hsz4 := Utf.sz_le (p : Int)
        have hWs : w.heap.size < W.heap.size := hv.out.lt
        have hB2 : Below W.heap.size W ((W.alloc (.cells #[.int .i64 (p : Int)] 55)).alloc (.cells #[.int .i64 (Utf.sz p : Nat)] 3)) := below_then (below_alloc W _) (below_alloc _ _)
        refine wpIn_rangeFunc_ownG rfl (by omega) (gf := 42) (lb := #[.pointer (some ⟨W.heap.size + 1, 0, none⟩), .pointer (some ⟨W.heap.size, 0, none⟩)]) rfl trivial (enters_of Tryd.func42 (by kernel_rfl) rfl)
          (bytes_stops 8 (by omega) (W.heap.size + 1) W.heap.size p HP.out.1 _ bN.cell bP.cell) (fun h k => K2.trans h k)
          (fun W l o o' _ h hnc _ => ⟨fun v hv => cell_kept hv (grownBy_putObj' W l o') (fun r e => by cases e; exact ⟨_, h, hnc⟩), fun v hv => cell_kept hv (grownBy_putObj' W l o') (fun r e => by cases e; exact ⟨_, h, hnc⟩)⟩) (Below.refl _ _) (fun _ => rfl)
          (fun pre V => ((∃ v, Boxed V w.heap.size 24 v ∧ V.ownsRow w.heap.size 5 1 v ((Utf.encs ps).length + pre.length) (bytes (Utf.encs ps ++ pre)) ∧ True) ∧ Boxed V (W.heap.size + 1) 3 (.int .i64 (Utf.sz p : Nat)) ∧ Boxed V W.heap.size 55 (.int .i64 (p : Int))) ∧ (Below w.heap.size w V ∧ MarksU w.heap.size W.heap.size Ds V))
          (fun _ _ _ => False)
          (OwnFrom.and (OwnFrom.and (Own.from (holdsRow_own w.heap.size w.heap.size 24 5 1 (fun pre => (Utf.encs ps).length + pre.length) (fun pre => bytes (Utf.encs ps ++ pre)) (fun _ _ => True)) _) (OwnFrom.and (Own.from (boxed_own (W.heap.size + 1) 3 (fun _ => .int .i64 (Utf.sz p : Nat))) _) (Own.from (boxed_own W.heap.size 55 (fun _ => .int .i64 (p : Int))) _))) (OwnFrom.and (ownFrom_below (Nat.le_refl _) (by simp; omega)) (ownFrom_marks _ _ _ _ (by simp; omega))))
          (fun _ _ _ _ _ hs _ _ => hs)
          ⟨⟨⟨_, (hv.out.alloc _).alloc _, by rw [List.append_nil]; exact (ho.out.alloc _).alloc _, trivial⟩, bN, bP⟩, hb.out.trans (hB2.mono (by omega)), hm.out.1, fun D hD => ⟨(hm.out.2 D hD).1, (Array.getElem?_eq_some_iff.1 (hm.out.2 D hD).2).1, (hB2.block D (Array.getElem?_eq_some_iff.1 (hm.out.2 D hD).2).1).trans (hm.out.2 D hD).2⟩⟩
          (fun x => { tmps := #[.slice (some ⟨b, o, none⟩) n c, undef, .string (ByteArray.mk #[]), .int .i64 0, .pointer (some ⟨w.heap.size, 0, none⟩), undef, .int .i64 (p : Int), .int .u8 (x.toNat : Int), .slice (some ⟨b, o, none⟩) n c, .int .i64 (n : Int), .int .i64 (j : Int), .bool true, .pointer (some ⟨b, o + j, none⟩), .int .i64 (p : Int), .int .i64 (p : Int), .int .i64 (Utf.sz p : Nat), .bool false, .int .i64 (p : Int), .func (.func 42) #[] #[.pointer (some ⟨W.heap.size + 1, 0, none⟩), .pointer (some ⟨W.heap.size, 0, none⟩)], .int .u8 (x.toNat : Int), undef, undef, undef, undef, u24, undef, undef], defers := [] }) ?assign ?body ?done ?stop
        case assign =>
          intro l x W K hK
          gi_wp2
          exact hK
        case body =>
          rintro _ pre x V ⟨⟨⟨v2, hv2, hrow, _⟩, hbN, hbP⟩, hB, hM⟩ hlt2
          have hc2 := hv2.cell
          have hl4 := HE.out
          have hn3 := HN.out
          clear hc
          gi_wp2_with (gi_at_builtin; refine wpListIn_append_own _ rfl _ _ 24 rfl w.heap.size 5 i0 (.int .u8 0) 1 1 Tryd.underlying24 hi hz0 hz1 hz2 rfl (by decide) _ _ _ rfl (hrow.alloc _) ⟨V.heap.size, 0, none⟩ 1 1 [.int .u8 (x.toNat : Int)] rfl rfl (cell_one_new _ _ _) (by simp [Value.oneCell']) (by unfold maxLen; omega) (by omega) (by have := hB.size; simp; omega) ?_; intro v' w1 hown' hgrow _; obtain ⟨g', cap', rfl⟩ := ownsRow_succ hown'; obtain ⟨hv1, hv3, hr2, hk2, hb2⟩ := hv2.appended (by decide) hrow hB.size (Nat.le_refl _) hown' hgrow; have hc1 := hv1.cell; have hf1 := hv1.frozen)
          have hbN' := ((hbN.alloc (.cells #[.int .u8 (x.toNat : Int)] 5)).kept hgrow (hbN.not_row (by decide) hrow)).other (show W.heap.size + 1 ≠ w.heap.size by omega) (.slice (some ⟨g', 0, none⟩) ((Utf.encs ps).length + pre.length + 1) cap')
          have hbP' := ((hbP.alloc (.cells #[.int .u8 (x.toNat : Int)] 5)).kept hgrow (hbP.not_row (by decide) hrow)).other (show W.heap.size ≠ w.heap.size by omega) (.slice (some ⟨g', 0, none⟩) ((Utf.encs ps).length + pre.length + 1) cap')
          refine ⟨hk2.from _, ⟨fun u hu => ?_, fun u hu => ?_⟩, ⟨⟨_, hv3, ?_, trivial⟩, hbN', hbP'⟩, hB.trans hb2, hM.1, fun D hD => ⟨(hM.2 D hD).1, (hM.2 D hD).2.1, hk2.same D _ (hM.2 D hD).2.2 rfl⟩⟩
          · rw [hbN.cell] at hu; rw [← hu]; exact hbN'.cell
          · rw [hbP.cell] at hu; rw [← hu]; exact hbP'.cell
          · rw [List.length_append, ← List.append_assoc, bytes_append]; exact hr2
        case done =>
          rintro D ys V hD rfl ⟨⟨⟨v2, hv2, hrow, _⟩, _, _⟩, hB, hM⟩ hK
          have hDW : W.heap.size < D := by simp at hD; omega
          have HR := hide hrow
          clear hc
          gi_wp2
          refine ⟨⟨j + 1, D :: Ds, ps ++ [p], v2, _, _, _, _, _, _, _, _, _, _, rfl, by omega, by rw [List.length_append, hps]; rfl, hide ⟨HP.out.2, fun q hq => ?_⟩, hide hv2, hide ?_, hide ⟨List.nodup_cons.2 ⟨fun h => ?_, hM.1⟩, fun D' hD' => ?_⟩, hide hB⟩, ?_⟩
          · rcases List.mem_append.1 hq with h | h
            · exact hx.out.2 q h
            · rw [List.mem_singleton] at h; rw [h]; exact HP.out.1
          · rw [Utf.encs_append, show Utf.encs [p] = Utf.enc p by rw [Utf.encs_cons, Utf.encs_nil, List.append_nil], List.length_append]; exact HR.out
          · have := (hM.2 D h).2.1; omega
          · rcases List.mem_cons.1 hD' with rfl | h
            · exact ⟨by omega, hK⟩
            · exact ⟨(hM.2 D' h).1, (hM.2 D' h).2.2⟩
          · simp [intOf]; omega
        case stop =>
          rintro D c pre W _ _ h _
          exact h.elim
      · have HF := hide (text_no hjl hcp)
        have hz : Utf.sz x[j] = 0 := by
          rcases Nat.eq_zero_or_pos (Utf.sz x[j]) with h1 | h1
          · exact h1
          · exact absurd (Utf.sz_pos.1 h1) hcp
        clear hcp
        generalize x[j] = cp at *
        gi_wp2_with (refine ⟨trivial, ?_⟩; gi_at_call 29; refine (callsIn_wide.2 (size_any cp _)).mono ?_; rintro e W ⟨rfl, rfl⟩; rw [hz])
        refine leaves_marks Ds _ hm.out fun W' hs => ⟨.tuple #[.string (ByteArray.mk #[]), .int .i64 110], by simp [results, Tryd.results15, go_sem], ?_⟩
        exact ⟨by rw [HF.out], hb.out.trans hs.1⟩
    · obtain rfl : j = n := by omega
      have hxx : x = zs ps := by have := hx.out.1; rwa [List.take_of_length_le (by rw [HL.out]; exact Nat.le_refl _)] at this
      have HF := hide (text_yes hxx hx.out.2)
      obtain ⟨A2, c2, rfl, hc2, hm2, hr2⟩ := own_slice ho.out
      have hcv := run_str (P := Tryd.prog) W 24 9 5 A2 (Utf.encs ps).length c2 (Utf.encs ps) hr2 (by kernel_rfl) (by kernel_rfl) (by kernel_rfl)
      have hcell := hv.out.cell
      clear hxx hr2
      generalize str (Utf.encs ps) = S at *
      gi_wp2
      refine leaves_marks Ds _ hm.out fun W' hs => ⟨.tuple #[.string S, .int .i64 0], by simp [results, Tryd.results15, go_sem], ?_⟩
      exact ⟨by rw [HF.out], hb.out.trans hs.1⟩
end Go.Proofs.YtheoadempenpaaaDoor
