/- The walk of quote's Read. -/
import Derived.Test.YtbnibiealnogdaaDoorQuoIter
import Derived.Test.YtbnibiealnogdaaDoorUtfPut
import Derived.Test.YtbnibiealnogdaaDoorUtfList
namespace Go.Proofs.YtbnibiealnogdaaDoor
open Go.RowKit Go.Shelf Go.Sort
attribute [local go_sem] Oper.semAt_some Dag.gives

/-- what a quoted text says that begins behind the mark at a place: the code points, the place behind it or the wrong one, the error -/
def readAt (l : List UInt8) (k : Nat) : List Nat × Nat × Int :=
  if l[k + 1 + (Quo.qscan (l.drop (k + 1))).2]? = some 34 then ((Quo.qscan (l.drop (k + 1))).1, k + 1 + (Quo.qscan (l.drop (k + 1))).2 + 1, 0)
  else ([], k + 1 + (Quo.qscan (l.drop (k + 1))).2, wrongE (l.drop (k + 1 + (Quo.qscan (l.drop (k + 1))).2)))
/-- what Read answers -/
def readR (l : List UInt8) (at_ : Int) : List Nat × Int × Int :=
  if at_ < 0 ∨ (l.length : Int) < at_ then ([], 0, 2)
  else if at_ = (l.length : Int) then ([], at_, 6)
  else if l[at_.toNat]? = some 34 then ((readAt l at_.toNat).1, ((readAt l at_.toNat).2.1 : Int), (readAt l at_.toNat).2.2)
  else ([], at_, 7)
def readV (r : List Nat × Int × Int) : Value := .tuple #[.string (str (Utf.encs r.1)), .int .i64 r.2.1, .int .i64 r.2.2]
theorem readV_none (p e : Int) : readV ([], p, e) = .tuple #[.string (ByteArray.mk #[]), .int .i64 p, .int .i64 e] := rfl
theorem ownsRow_base {w : World} {B C : Nat} {e : TypeId} {s n : Nat} {v : Value} {xs : List Value} (h : w.ownsRow B e s v n xs) (hc : C ≤ B) : w.ownsRow C e s v n xs := by
  refine ⟨h.1, ?_⟩
  rcases h.2 with hn | ⟨g, cap, cur, hv, hb, rest⟩
  · exact .inl hn
  · exact .inr ⟨g, cap, cur, hv, Nat.le_trans hc hb, rest⟩
theorem own_set_low {W : World} {base : Nat} {e : TypeId} {n B : Nat} {v : Value} {xs : List Value} (h : W.ownsRow base e 1 v n xs) (hB : B < base) (u : Value) : (W.setCell ⟨B, 0, none⟩ u).ownsRow base e 1 v n xs := by
  refine ⟨h.1, ?_⟩
  rcases h.2 with hn | ⟨g, cap, cur, hv, hb, hg, rest⟩
  · exact .inl hn
  · exact .inr ⟨g, cap, cur, hv, hb, (Below.heap_setCell W ⟨B, 0, none⟩ u g (by simp; omega)).trans hg, rest⟩
theorem own_set_type {W : World} {base : Nat} {e t : TypeId} {n B : Nat} {v x : Value} {xs : List Value} (h : W.ownsRow base e 1 v n xs) (hb : Boxed W B t x) (hne : e ≠ t) (u : Value) : (W.setCell ⟨B, 0, none⟩ u).ownsRow base e 1 v n xs := by
  refine ⟨h.1, ?_⟩
  rcases h.2 with hn | ⟨g, cap, cur, hv, hbb, hg, rest⟩
  · exact .inl hn
  · refine .inr ⟨g, cap, cur, hv, hbb, (Below.heap_setCell W ⟨B, 0, none⟩ u g ?_).trans hg, rest⟩
    rintro rfl
    have h1 : some (Obj.cells #[x] t (0, 0)) = some (Obj.cells cur e (0, 0)) := hb.symm.trans hg
    injection h1 with h2
    injection h2 with _ h3 _
    exact hne h3.symm
theorem boxed_put {W : World} {B : Nat} {t : TypeId} {v : Value} (h : Boxed W B t v) {l : Nat} (o' : Obj) (hne : B ≠ l) : Boxed (W.putObj l o') B t v := (World.putObj_heap_other hne).trans h
theorem below_put {W : World} {H l : Nat} (o' : Obj) (h1 : H ≤ W.heap.size) (h2 : H ≤ l) : Below H W (W.putObj l o') := (Below.refl H W).grown (grownBy_putObj' W l o') h1 (fun k e => by cases e; exact h2)
/-- between two rounds: what has come is laid out, the place behind it -/
structure ReadI (w : World) (n k : Nat) (one : Value) (pre : List (Nat × Nat)) (W : World) : Prop where
  out : ∃ v, Boxed W w.heap.size 29 v ∧ W.ownsRow w.heap.size 5 1 v (Utf.encs (pre.map Prod.fst)).length (bytes (Utf.encs (pre.map Prod.fst)))
  place : Boxed W (w.heap.size + 1) 3 (.int .i64 (Quo.lastOr k pre : Nat))
  one : Boxed W (w.heap.size + 1 + 1) 69 one
  at_ : ∃ u, Boxed W (w.heap.size + 1 + 1 + 1) 3 u
  end_ : Boxed W (w.heap.size + 1 + 1 + 2) 3 (.int .i64 (n : Int))
  below : Below w.heap.size w W
  cps : Utf.allCp (pre.map Prod.fst)
theorem ReadI.on {w : World} {n k : Nat} {one : Value} {pre : List (Nat × Nat)} {W V : World} (h : ReadI w n k one pre W) (hb : Below W.heap.size W V) : ReadI w n k one pre V :=
  ⟨let ⟨v, h1, h2⟩ := h.out; ⟨v, boxed_below h1 hb, own_on h2 hb⟩, boxed_below h.place hb, boxed_below h.one hb, let ⟨u, hu⟩ := h.at_; ⟨u, boxed_below hu hb⟩, boxed_below h.end_ hb, below_then h.below hb, h.cps⟩
theorem ReadI.put {w : World} {n k : Nat} {one : Value} {pre : List (Nat × Nat)} {W : World} (h : ReadI w n k one pre W) {l : Nat} {o : Obj} (o' : Obj) (hl : w.heap.size + 5 ≤ l) (ho : W.heap[l]? = some o) (hc : o.isCells = false) : ReadI w n k one pre (W.putObj l o') :=
  ⟨let ⟨v, h1, h2⟩ := h.out; ⟨v, boxed_put h1 o' (by omega), ownsRow_putObj h2 o' ho hc⟩, boxed_put h.place o' (by omega), boxed_put h.one o' (by omega), let ⟨u, hu⟩ := h.at_; ⟨u, boxed_put hu o' (by omega)⟩, boxed_put h.end_ o' (by omega),
    h.below.trans (below_put o' h.below.size (by omega)), h.cps⟩
theorem ReadI.set {w : World} {n k : Nat} {one : Value} {pre : List (Nat × Nat)} {W : World} (h : ReadI w n k one pre W) (u : Value) : ReadI w n k one pre (W.setCell ⟨w.heap.size + 1 + 1 + 1, 0, none⟩ u) :=
  ⟨let ⟨v, h1, h2⟩ := h.out; let ⟨_, hu⟩ := h.at_; ⟨v, boxed_set_other h1 (by omega) u, own_set_type h2 hu (by decide) u⟩, boxed_set_other h.place (by omega) u, boxed_set_other h.one (by omega) u, let ⟨_, hu⟩ := h.at_; ⟨u, boxed_set hu u⟩, boxed_set_other h.end_ (by omega) u,
    h.below.setCell (p := ⟨w.heap.size + 1 + 1 + 1, 0, none⟩) (by show _ ≤ _ + 1 + 1 + 1; omega) u, h.cps⟩
theorem wrap_q {q n : Nat} (h : q ≤ n) (hn : n ≤ 10000) : IntKind.i64.wrap ((q : Int) + 1) = (q : Int) + 1 := by rw [IntKind.wrap_i64]; omega
theorem quo_wrong {l : List UInt8} {q : Nat} (h : q ≤ l.length) (hz : (Quo.sign (l.drop q)).2 = 0) : quoV l (q : Int) = .tuple #[.int .i64 0, .int .i64 0, .int .i64 (wrongE (l.drop q))] := by
  by_cases hq : q < l.length
  · rw [quoV_at hq]; exact signV_no hz rfl
  · obtain rfl : q = l.length := by omega
    unfold quoV
    rw [if_neg (by omega), if_pos rfl, List.drop_length]
    rfl
theorem readAt_yes {l : List UInt8} {k q : Nat} (hq : q = k + 1 + (Quo.qscan (l.drop (k + 1))).2) (h : l[q]? = some 34) : readAt l k = ((Quo.qscan (l.drop (k + 1))).1, q + 1, 0) := by
  subst hq; exact if_pos h
theorem readAt_no {l : List UInt8} {k q : Nat} (hq : q = k + 1 + (Quo.qscan (l.drop (k + 1))).2) (h : ¬ l[q]? = some 34) : readAt l k = ([], q, wrongE (l.drop q)) := by
  subst hq; exact if_neg h
set_option maxRecDepth 100000 in
set_option maxHeartbeats 8000000 in
theorem Read_any (A : Option Addr) (n c : Nat) (l : List UInt8) (at_ : Int) (w : World) (hA : RB w A n l) (hc : n ≤ c) (hn : n ≤ 10000) (hg : Gl w) :
    Calls Tryd.prog 16 #[.slice A n c, .int .i64 at_] w fun e w' => e = .returned (readV (readR l at_)) ∧ Below w.heap.size w w' := by
  have hl := hA.len
  by_cases h0 : at_ < 0
  · have HF := hide (show readR l at_ = ([], 0, 2) by unfold readR; rw [if_pos (Or.inl h0)])
    go_enter Tryd.func16, Tryd.ntmps16
    go_wp2_with fail
    go_step3
    go_wp2_with fail
    rw [Exit.noGoto_ret]
    go_ret3
    exact ⟨by rw [HF.out]; rfl, Below.refl _ _⟩
  · by_cases h1 : (n : Int) < at_
    · have HF := hide (show readR l at_ = ([], 0, 2) by unfold readR; rw [if_pos (Or.inr (by omega))])
      go_enter Tryd.func16, Tryd.ntmps16
      go_wp2_with fail
      go_step3
      go_wp2_with fail
      rw [Exit.noGoto_ret]
      go_ret3
      exact ⟨by rw [HF.out]; rfl, Below.refl _ _⟩
    · by_cases h2 : at_ = (n : Int)
      · have HF := hide (show readR l at_ = ([], at_, 6) by unfold readR; rw [if_neg (by omega), if_pos (by omega)])
        have ht : (at_ == (n : Int)) = true := by rw [beq_iff_eq]; exact h2
        clear h2
        go_enter Tryd.func16, Tryd.ntmps16
        go_wp2_with fail
        go_step3
        go_wp2_with fail
        rw [Exit.noGoto_ret]
        go_ret3
        exact ⟨by rw [HF.out]; rfl, Below.refl _ _⟩
      · obtain ⟨k, rfl⟩ : ∃ k : Nat, at_ = (k : Int) := ⟨at_.toNat, by omega⟩
        have ht : ((k : Int) == (n : Int)) = false := by rw [beq_eq_false_iff_ne]; exact h2
        have hk : k < n := by omega
        have hkl : k < l.length := by omega
        have hk0 : (0 : Int) ≤ (k : Int) := by omega
        have hk1 : (k : Int) < (n : Int) := by omega
        obtain ⟨b, o, rfl, hb0, hc0⟩ := hA.cell hkl
        have HX := hide (List.getElem?_eq_getElem hkl)
        generalize l[k] = x at *
        have hx := x.toNat_lt
        by_cases h34 : x.toNat = 34
        · have t34 : ((x.toNat : Int) != 34) = false := by rw [h34]; rfl
          have HF := hide (show readR l (k : Int) = ((readAt l k).1, ((readAt l k).2.1 : Int), (readAt l k).2.2) by
            unfold readR; rw [if_neg (by omega), if_neg (by omega), Int.toNat_natCast, HX.out, if_pos (by rw [UInt8.toNat_inj.1 (show x.toNat = (34 : UInt8).toNat from h34)])])
          have HL := hide hl
          have HA := hide hA
          have HG := hide hg
          have HK := hide hk
          have hw1 : wrap64 ((k : Int) + 1) = (k : Int) + 1 := by unfold wrap64; omega
          have hmf : ∀ (fn : Fn) (first cap : Array Value) (w : World), (Instr.makeFunc fn first cap).run Tryd.prog w = .ok (.func fn first cap) w := fun _ _ _ _ => rfl
          clear h0 h1 h2 hk hA hg hl hkl h34
          refine (callsIn_wide (n := 9)).1 ?_
          refine callsIn_of_wp_marks Tryd.func16 rfl trivial ?_ rfl
          simp only [Tryd.ntmps16, List.size_toArray, List.length_cons, List.length_nil, Nat.reduceAdd, Nat.reduceSub, Array.replicate_succ, Array.replicate_zero, List.push_toArray, List.append_toArray, List.nil_append, List.cons_append]
          gi_wp2
          refine wpIn_wide.2 (wp_scope_straight ((wpIn_wide (n := 9)).1 ?_))
          gi_wp2
          apply wpIn_label
          gi_wp2
          refine ⟨trivial, ?_⟩
          refine (callsIn_wide.2 (signs_any (some ⟨b, o, none⟩) n c ((k : Int) + 1) (n : Int) _)).mono ?_
          rintro e w3 ⟨rfl, rfl⟩
          gi_wp2
          have hB5 : Below w.heap.size w (((((w.alloc (.cells #[.slice none 0 0] 29)).alloc (.cells #[.int .i64 ((k : Int) + 1)] 3)).alloc (.cells #[oneV (some ⟨b, o, none⟩) n c] 69)).alloc (.cells #[.int .i64 ((k : Int) + 1)] 3)).alloc (.cells #[.int .i64 (n : Int)] 3)) :=
            below_then (below_then (below_then (below_then (below_alloc _ _) (below_alloc _ _)) (below_alloc _ _)) (below_alloc _ _)) (below_alloc _ _)
          have q1 := ((((Boxed.new w 29 (.slice none 0 0)).alloc (.cells #[.int .i64 ((k : Int) + 1)] 3)).alloc (.cells #[oneV (some ⟨b, o, none⟩) n c] 69)).alloc (.cells #[.int .i64 ((k : Int) + 1)] 3)).alloc (.cells #[.int .i64 (n : Int)] 3)
          have q2 := (((Boxed.new (w.alloc (.cells #[.slice none 0 0] 29)) 3 (.int .i64 ((k : Int) + 1))).alloc (.cells #[oneV (some ⟨b, o, none⟩) n c] 69)).alloc (.cells #[.int .i64 ((k : Int) + 1)] 3)).alloc (.cells #[.int .i64 (n : Int)] 3)
          have q3 := ((Boxed.new ((w.alloc (.cells #[.slice none 0 0] 29)).alloc (.cells #[.int .i64 ((k : Int) + 1)] 3)) 69 (oneV (some ⟨b, o, none⟩) n c)).alloc (.cells #[.int .i64 ((k : Int) + 1)] 3)).alloc (.cells #[.int .i64 (n : Int)] 3)
          have q4 := (Boxed.new (((w.alloc (.cells #[.slice none 0 0] 29)).alloc (.cells #[.int .i64 ((k : Int) + 1)] 3)).alloc (.cells #[oneV (some ⟨b, o, none⟩) n c] 69)) 3 (.int .i64 ((k : Int) + 1))).alloc (.cells #[.int .i64 (n : Int)] 3)
          have q5 := Boxed.new ((((w.alloc (.cells #[.slice none 0 0] 29)).alloc (.cells #[.int .i64 ((k : Int) + 1)] 3)).alloc (.cells #[oneV (some ⟨b, o, none⟩) n c] 69)).alloc (.cells #[.int .i64 ((k : Int) + 1)] 3)) 3 (.int .i64 (n : Int))
          have hs5 : (((((w.alloc (.cells #[.slice none 0 0] 29)).alloc (.cells #[.int .i64 ((k : Int) + 1)] 3)).alloc (.cells #[oneV (some ⟨b, o, none⟩) n c] 69)).alloc (.cells #[.int .i64 ((k : Int) + 1)] 3)).alloc (.cells #[.int .i64 (n : Int)] 3)).heap.size = w.heap.size + 5 := by simp
          simp only [World.size_alloc] at q2 q3 q4 q5
          generalize ((((w.alloc (.cells #[.slice none 0 0] 29)).alloc (.cells #[.int .i64 ((k : Int) + 1)] 3)).alloc (.cells #[oneV (some ⟨b, o, none⟩) n c] 69)).alloc (.cells #[.int .i64 ((k : Int) + 1)] 3)).alloc (.cells #[.int .i64 (n : Int)] 3) = W5 at *
          have hI0 : ReadI w n (k + 1) (oneV (some ⟨b, o, none⟩) n c) [] W5 := ⟨⟨_, q1, World.ownsRow_nil _ _ _ _⟩, q2, q3, ⟨_, q4⟩, q5, hB5, fun p hp => absurd hp (by simp)⟩
          have hseq := signs_stops 8 (by omega) w (w.heap.size + 1 + 1 + 1) (w.heap.size + 1 + 1 + 2) (w.heap.size + 1 + 1) (some ⟨b, o, none⟩) n c (k + 1) l W5 HA.out hc (by omega) (by have := HK.out; omega) HG.out hB5 (by omega) (by omega) (by omega) q4 q5 q3
          have HI0 := hide hI0
          have HS5 := hide hs5
          clear q1 q2 q3 q4 q5 hB5 hI0 hs5
          refine range_boxed (Ba := w.heap.size + 1 + 1 + 1) (by omega) rfl (enters_of Tryd.func49 (by kernel_rfl) rfl) (by have := HS5.out; omega) hseq (fun _ => rfl) (fun h k => KQ.trans h k)
            (fun W l o o' hl ho hc => by
              have := HS5.out
              exact ⟨fun v hv => boxed_put hv o' (by omega), fun v hv => boxed_put hv o' (by omega), fun v hv => boxed_put hv o' (by omega), below_put o' (by have := (Array.getElem?_eq_some_iff.1 ho).1; omega) (by omega)⟩)
            (ReadI w n (k + 1) (oneV (some ⟨b, o, none⟩) n c)) (fun pre _ => ¬ Utf.allCp (pre.map Prod.fst)) 1
            (fun s A B h hb => h.on hb) (fun s A l o o' h hl ho hc => h.put o' (by have := HS5.out; omega) ho hc) (fun s A v h => h.set v) (fun _ _ _ _ _ h _ _ _ => h) HI0.out
            (fun y => { tmps := #[.slice (some ⟨b, o, none⟩) n c, .int .i64 (k : Int), undef, undef, .string (ByteArray.mk #[]), .int .i64 0, .int .i64 0, .pointer (some ⟨w.heap.size, 0, none⟩), .pointer (some ⟨w.heap.size + 1, 0, none⟩), .int .i64 (y.1 : Int), .int .i64 (y.2 : Int), undef, undef, undef, undef, undef, .bool (decide ((k : Int) < 0)), .int .i64 (k : Int), .bool (decide ((k : Int) < 0)), .bool (decide ((k : Int) < 0)), .int .i64 (k : Int), .slice (some ⟨b, o, none⟩) n c, .int .i64 (n : Int), .bool false, .bool (decide ((k : Int) < 0)), .bool false, .int .i64 (k : Int), .slice (some ⟨b, o, none⟩) n c, .int .i64 (n : Int), .bool false, undef, .bool false, .slice (some ⟨b, o, none⟩) n c, .int .i64 (k : Int), .pointer (some ⟨b, o + k, none⟩), .int .u8 (x.toNat : Int), .bool false, undef, .int .i64 (k : Int), .int .i64 ((k : Int) + 1), .slice (some ⟨b, o, none⟩) n c, .agg #[.slice (some ⟨b, o, none⟩) n c], .func (.func 37) #[.agg #[.slice (some ⟨b, o, none⟩) n c]] #[], .int .i64 ((k : Int) + 1), .slice (some ⟨b, o, none⟩) n c, .int .i64 (n : Int), .func (.func 49) #[] #[.pointer (some ⟨w.heap.size + 1 + 1 + 1, 0, none⟩), .pointer (some ⟨w.heap.size + 1 + 1 + 2, 0, none⟩), .pointer (some ⟨w.heap.size + 1 + 1, 0, none⟩)], .int .i64 (y.1 : Int), .int .i64 (y.2 : Int), undef, undef, undef, undef, undef, undef, undef, undef, undef, undef, undef, undef, undef, undef, undef, undef, undef, undef, undef, undef, undef, undef, undef, undef, undef, undef, undef, undef, undef, undef, undef, undef, undef, undef], defers := [] }) ?assign ?body ?done ?stop
          case assign =>
            intro l y W K hK
            unfold signEnc
            gi_wp2
            exact hK
          case body =>
            rintro _ pre y W hI hlt
            obtain ⟨v, hv, hrow⟩ := hI.out
            obtain ⟨A', c', rfl, _, _, hrb⟩ := own_slice hrow
            have hcell := hv.cell
            have HLE := hide (encs_le _ hI.cps)
            have HLN := hide (show (pre.map Prod.fst).length = pre.length from List.length_map ..)
            have HP := hide (Put_any A' _ c' (y.1 : Int) (Utf.encs (pre.map Prod.fst)) W hrb (by have := HLE.out; have := HLN.out; omega))
            have HI := hide hI
            have HV := hide hv
            clear hrow hI hrb hseq hc0 hv
            gi_wp2
            refine ⟨trivial, ?_⟩
            refine (callsIn_wide.2 HP.out).mono ?_
            rintro e W1 ⟨hb1, he⟩
            have hI1 := hide (HI.out.on hb1)
            cases hcp : Utf.isCp (y.1 : Int) with
            | false =>
              rw [hcp, if_neg (by simp)] at he
              subst he
              have HX := hide (show ¬ Utf.allCp ((pre ++ [y]).map Prod.fst) from fun h => by
                have := h y.1 (by simp)
                rw [hcp] at this; cases this)
              clear hcp
              gi_wp2
              exact ⟨⟨hb1.size, fun k' o' _ hk' _ => below_obj hk' hb1⟩, rfl, HX.out⟩
            | true =>
              rw [hcp, if_pos rfl, Int.toNat_natCast] at he
              obtain ⟨v1, rfl, ho1⟩ := he
              obtain ⟨A1, c1, rfl, _, _, _⟩ := own_slice ho1
              have hbx := boxed_below HV.out hb1
              have hf1 := hbx.frozen
              have hf2 := hI1.out.place.frozen
              have hcl1 := hbx.cell
              have hcl2 := hI1.out.place.cell
              have HO1 := hide ho1
              have HCP := hide hcp
              have HB1 := hide hb1
              have HBX := hide hbx
              clear ho1 hcp hbx hcell
              gi_wp2
              have hws := HB1.out.size
              have hw := HI.out.below.size
              have hw5 := HI.out.end_.lt
              have hrow2 := own_set_low (own_set_low HO1.out (B := w.heap.size) (by omega) (.slice A1 ((Utf.encs (pre.map Prod.fst)).length + (Utf.enc y.1).length) c1)) (B := w.heap.size + 1) (by omega) (.int .i64 (y.2 : Int))
              refine ⟨⟨?_, fun k' o' _ hk' hc' => ?_⟩, ⟨fun u hu => ?_, fun u hu => ?_, fun u hu => ?_, ?_⟩, ⟨.slice A1 ((Utf.encs (pre.map Prod.fst)).length + (Utf.enc y.1).length) c1, ?_, ?_⟩, ?_, ?_, ?_, ?_, ?_, ?_⟩
              · exact (((HB1.out.mono hw).setCell (p := ⟨w.heap.size, 0, none⟩) (Nat.le_refl _) _).setCell (p := ⟨w.heap.size + 1, 0, none⟩) (Nat.le_succ _) _).size
              · have h1 := below_obj hk' HB1.out
                exact (KeepsOthers.setCell _ _ _).same _ _ ((KeepsOthers.setCell _ _ _).same _ _ h1 hc') hc'
              · exact boxed_set_other (boxed_set_other (boxed_below hu HB1.out) (by omega) _) (by omega) _
              · exact boxed_set_other (boxed_set_other (boxed_below hu HB1.out) (by omega) _) (by omega) _
              · exact boxed_set_other (boxed_set_other (boxed_below hu HB1.out) (by omega) _) (by omega) _
              · exact ((HB1.out.mono hw).setCell (p := ⟨w.heap.size, 0, none⟩) (Nat.le_refl _) _).setCell (p := ⟨w.heap.size + 1, 0, none⟩) (Nat.le_succ _) _
              · exact boxed_set_other (boxed_set HBX.out _) (by omega) _
              · rw [List.map_append, Utf.encs_append, List.length_append, show Utf.encs (List.map Prod.fst [y]) = Utf.enc y.1 by rw [List.map_cons, List.map_nil, Utf.encs_cons, Utf.encs_nil, List.append_nil]]
                exact ownsRow_base hrow2 (by omega)
              · rw [Quo.lastOr_snoc]
                exact boxed_set (boxed_set_other hI1.out.place (by omega) _) _
              · exact boxed_set_other (boxed_set_other hI1.out.one (by omega) _) (by omega) _
              · obtain ⟨u, hu⟩ := hI1.out.at_
                exact ⟨u, boxed_set_other (boxed_set_other hu (by omega) _) (by omega) _⟩
              · exact boxed_set_other (boxed_set_other hI1.out.end_ (by omega) _) (by omega) _
              · exact (hI1.out.below.setCell (p := ⟨w.heap.size, 0, none⟩) (Nat.le_refl _) _).setCell (p := ⟨w.heap.size + 1, 0, none⟩) (Nat.le_succ _) _
              · intro p hp
                rw [List.map_append, List.mem_append] at hp
                rcases hp with hp | hp
                · exact HI.out.cps p hp
                · simp at hp; rw [hp]; exact HCP.out
          case done =>
            rintro D ys W hD rfl hI hK
            obtain ⟨h1, h2⟩ := Quo.pairs_all (k + 1) (l.drop (k + 1))
            obtain ⟨f1, f2, _, _, f5⟩ := Quo.qscan_all (l.drop (k + 1))
            rw [List.drop_drop] at f5
            rw [List.length_drop, HL.out] at f2
            obtain ⟨v, hv, hrow⟩ := hI.out
            have hpl := hI.place
            rw [h2] at hpl
            rw [h1] at hrow
            have hkn := HK.out
            obtain ⟨q, hq⟩ : ∃ q, q = k + 1 + (Quo.qscan (l.drop (k + 1))).2 := ⟨_, rfl⟩
            rw [← hq] at hpl f5
            have HQ := hide hq
            have HZ := hide f5
            have hqn : q ≤ n := by omega
            obtain ⟨L, hLL⟩ : ∃ L, L = (Utf.encs (Quo.qscan (l.drop (k + 1))).1).length := ⟨_, rfl⟩
            rw [← hLL] at hrow
            obtain ⟨A', c', rfl, _, _, hrb⟩ := own_slice hrow
            have hcell := hv.cell
            have hcell2 := hpl.cell
            have hq0 : (0 : Int) ≤ (q : Int) := by omega
            have HB := hide hI.below
            have HRB : Hid (RB W A' L (Utf.encs (Quo.qscan (l.drop (k + 1))).1)) := hide hrb
            have HK' := hide hK
            clear hLL f2 f5 h1 h2 hrb hrow hv hpl hI hseq hq hkn f1
            by_cases h34 : l[q]? = some 34
            · have HR := hide (readAt_yes HQ.out h34)
              have hql : q < l.length := (List.getElem?_eq_some_iff.1 h34).1
              have hqe := (List.getElem?_eq_some_iff.1 h34).2
              have hqn2 : (q : Int) < (n : Int) := by rw [HL.out] at hql; omega
              obtain ⟨b', o', he, hbl, hcq⟩ := (HA.out.on HB.out).cell hql
              obtain ⟨rfl, rfl⟩ : b = b' ∧ o = o' := by simpa using he
              rw [hqe] at hcq
              have hcq2 : W.cell? ⟨b, o + q, none⟩ = some (.int .u8 34) := hcq
              clear h34 hql hqe hcq he
              obtain ⟨S, hS⟩ : ∃ S, S = str (Utf.encs (Quo.qscan (l.drop (k + 1))).1) := ⟨_, rfl⟩
              have HSS := hide hS
              clear hS
              gi_wp2
              refine wpIn_wide.2 ?_
              have hcv : ∀ d, (convert 29 9 (.slice A' L c')).run Tryd.prog (W.drewN d) = .ok (.string S) (W.drewN d) := fun d => by
                rw [HSS.out]
                exact run_str (P := Tryd.prog) (W.drewN d) 29 9 5 A' L c' (Utf.encs (Quo.qscan (l.drop (k + 1))).1) (HRB.out.on (below_drewN W d)) (by kernel_rfl) (by kernel_rfl) (by kernel_rfl)
              go_quiet (fail)
              gi_wp2
              rw [Exit.noGoto_ret]
              have HBV := hide (below_then HB.out (below_drewN W nq))
              refine ⟨by simp, .inl ⟨_, _, rfl, run_takeDeferred (below_obj HK'.out (below_drewN W nq)), ?_⟩⟩
              refine ⟨.tuple #[.string S, .int .i64 ((q : Int) + 1), .int .i64 0], by simp [results, Tryd.results16, go_sem], ?_, ?_⟩
              · rw [HF.out, HR.out, HSS.out]; rfl
              · exact HBV.out.trans (below_put _ HBV.out.size (by have := HS5.out; omega))
            · have HR := hide (readAt_no HQ.out h34)
              have HS := hide (Sign_any (some ⟨b, o, none⟩) n c l (q : Int) W (HA.out.on HB.out) hc (by omega) (HG.out.on HB.out))
              have HV := hide (quo_wrong (l := l) (q := q) (by rw [HL.out]; exact hqn) HZ.out)
              have hplb := hide hcell2
              by_cases hql : q < n
              · have hql' : q < l.length := by rw [HL.out]; exact hql
                have hqn2 : (q : Int) < (n : Int) := by omega
                obtain ⟨b', o', he, hbl, hcq⟩ := (HA.out.on HB.out).cell hql'
                obtain ⟨rfl, rfl⟩ : b = b' ∧ o = o' := by simpa using he
                have hne : (((l[q]).toNat : Int) == 34) = false := by
                  rw [beq_eq_false_iff_ne]
                  intro h
                  exact h34 (by rw [List.getElem?_eq_getElem hql', UInt8.toNat_inj.1 (show (l[q]).toNat = (34 : UInt8).toNat by simpa using Int.ofNat.inj h)])
                generalize (l[q]).toNat = z at *
                clear h34 he hql hcell
                gi_wp2
                refine ⟨trivial, ?_⟩
                refine (callsIn_wide.2 HS.out).mono ?_
                rintro e V ⟨rfl, hbV⟩
                rw [HV.out]
                have hcell3 := keep_cell hbV hplb.out
                have HBV := hide (below_then HB.out hbV)
                have HKV := hide (below_obj HK'.out hbV)
                generalize wrongE (l.drop q) = e at *
                clear hcell2 hcq hbV
                gi_wp2
                refine wpIn_wide.2 ?_
                go_quiet (fail)
                gi_wp2
                rw [Exit.noGoto_ret]
                refine ⟨by simp, .inl ⟨_, _, rfl, run_takeDeferred (below_obj HKV.out (below_drewN V nq)), ?_⟩⟩
                refine ⟨.tuple #[.string (ByteArray.mk #[]), .int .i64 (q : Int), .int .i64 e], by simp [results, Tryd.results16, go_sem], ?_, ?_⟩
                · rw [HF.out, HR.out]; rfl
                · exact (below_then HBV.out (below_drewN V nq)).trans (below_put _ (below_then HBV.out (below_drewN V nq)).size (by have := HS5.out; omega))
              · obtain rfl : q = n := by omega
                clear h34 hcell
                gi_wp2
                refine ⟨trivial, ?_⟩
                refine (callsIn_wide.2 HS.out).mono ?_
                rintro e V ⟨rfl, hbV⟩
                rw [HV.out]
                have hcell3 := keep_cell hbV hplb.out
                have HBV := hide (below_then HB.out hbV)
                have HKV := hide (below_obj HK'.out hbV)
                generalize wrongE (l.drop q) = e at *
                clear hcell2 hbV
                gi_wp2
                refine wpIn_wide.2 ?_
                go_quiet (fail)
                gi_wp2
                rw [Exit.noGoto_ret]
                refine ⟨by simp, .inl ⟨_, _, rfl, run_takeDeferred (below_obj HKV.out (below_drewN V nq)), ?_⟩⟩
                refine ⟨.tuple #[.string (ByteArray.mk #[]), .int .i64 (q : Int), .int .i64 e], by simp [results, Tryd.results16, go_sem], ?_, ?_⟩
                · rw [HF.out, HR.out]; rfl
                · exact (below_then HBV.out (below_drewN V nq)).trans (below_put _ (below_then HBV.out (below_drewN V nq)).size (by have := HS5.out; omega))
          case stop =>
            rintro D pre W _ hpre h _
            refine absurd (fun p hp => ?_) h
            obtain ⟨y, hy, rfl⟩ := List.mem_map.1 hp
            have h1 := (Quo.qscan_all (l.drop (k + 1))).1
            rw [← (Quo.pairs_all (k + 1) (l.drop (k + 1))).1] at h1
            exact h1 _ (List.mem_map.2 ⟨y, hpre.subset hy, rfl⟩)
        · have t34 : ((x.toNat : Int) != 34) = true := by rw [bne_iff_ne]; omega
          have HF := hide (show readR l (k : Int) = ([], (k : Int), 7) by
            unfold readR; rw [if_neg (by omega), if_neg (by omega), Int.toNat_natCast, HX.out, if_neg (by intro h; exact h34 (by rw [Option.some.inj h]; rfl))])
          clear h0 h1 h2 hk hA hl hkl h34
          go_enter Tryd.func16, Tryd.ntmps16
          go_wp2_with fail
          go_step3
          go_wp2_with fail
          rw [Exit.noGoto_ret]
          go_ret3
          exact ⟨by rw [HF.out]; rfl, Below.refl _ _⟩
end Go.Proofs.YtbnibiealnogdaaDoor
