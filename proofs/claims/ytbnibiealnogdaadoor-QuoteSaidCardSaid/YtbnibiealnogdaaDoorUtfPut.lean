/- The walks of utf's put, Put. -/
import Derived.Test.YtbnibiealnogdaaDoorUtfBytes
import Derived.Maps.AppendAt
import Derived.Deep.Onto
namespace Go.Proofs.YtbnibiealnogdaaDoor
open Go.RowKit Go.Shelf Go.Sort
attribute [local go_sem] Oper.semAt_some

theorem run_copy_apart {P : Program} (W : World) (dT sT ty e t : TypeId) (hu : P.underlying dT = some (.slice e)) (hs : (P.info? e).map (·.size) = some 1)
    (g off dLen dCap : Nat) (B : Nat) (A : Option Addr) (n c : Nat) (cs : List Value) (cur : Array Value) (hg : W.heap[g]? = some (.cells cur t (0, 0))) (hr : Reads W B 1 A n cs)
    (hle : n ≤ dLen) (hfit : off + n ≤ cur.size) (h1 : ∀ v ∈ cs, v.oneCell' = true) :
    ∃ W', (Builtin.copy_ #[dT, sT] ty #[.slice (some ⟨g, off, none⟩) dLen dCap, .slice A n c]).run P W = .ok (.int .i64 (n : Int)) W' ∧
      W'.heap[g]? = some (.cells (cur.toList.take off ++ (cs ++ cur.toList.drop (off + n))).toArray t (0, 0)) ∧ Below g W W' ∧ W'.heap.size = W.heap.size ∧ (∀ k, k ≠ g → W'.heap[k]? = W.heap[k]?) := by
  have hl := hr.len
  by_cases h0 : n = 0
  · subst h0
    obtain rfl : cs = [] := List.eq_nil_of_length_eq_zero hl
    have hrun := run_copy_none (P := P) W dT sT ty e (some ⟨g, off, none⟩) A dLen dCap 0 c hu hs (by simp)
    exact ⟨W, hrun, by simpa using hg, Below.refl _ _, rfl, fun _ _ => rfl⟩
  · obtain ⟨b, o, rfl, _, hc⟩ := hr.2 (by omega)
    have hrun := run_copy_row (P := P) W dT sT ty e g off dLen dCap ⟨b, o, none⟩ n c cur t cs hu hs hg (by rw [hl]; exact (Nat.min_eq_left hle).symm) (fun j v hv => by rw [addr_add]; exact hc j v hv) (by rw [hl]; exact hfit) h1
    rw [hl] at hrun
    exact ⟨_, hrun, by rw [← List.append_assoc]; exact setRow_heap W g _ _ t _ hg, below_setRow (Below.refl _ _) (Nat.le_refl _) _, size_setRow _ _ _, fun k hk => setRow_other W g _ _ hk⟩
theorem made_bytes (w : World) (n : Nat) (hn : n ≤ 1048576) : ∃ Z : Array Value, Z.size = n + 4 ∧
    (Instr.makeSlice 29 (.int .i64 (n : Int)) (.int .i64 ((n : Int) + 4))).run Tryd.prog w = .ok (.slice (some ⟨w.heap.size, 0, none⟩) n (n + 4)) (w.alloc (.cells Z 5)) := by
  obtain ⟨i0, hi, hz0, hz1, hz2⟩ := info_parts u8_info
  have h := run_makeSlice (P := Tryd.prog) (w := w) 29 5 i0 (.int .u8 0) Tryd.underlying29 hi hz0 .i64 .i64 (n : Int) ((n : Int) + 4) (by omega) (by omega) (by rw [hz1]; omega) (by rw [hz2]; omega) (by omega)
  refine ⟨madeCells (Value.int .u8 0).cells (((n : Int) + 4).toNat * i0.size), ?_, ?_⟩
  · rw [size_madeCells, hz1]; omega
  · rw [h, Int.toNat_natCast, show ((n : Int) + 4).toNat = n + 4 by omega]
set_option maxHeartbeats 4000000 in
theorem put_any (A : Option Addr) (n c p : Nat) (l : List UInt8) (w : World) (hA : RB w A n l) (hn : n ≤ 100000) (hcp : Utf.isCp p = true) :
    Calls Tryd.prog 44 #[.slice A n c, .int .i64 (p : Int)] w fun e w' => ∃ v, e = .returned v ∧ w'.ownsRow w.heap.size 5 1 v (n + (Utf.enc p).length) (bytes (l ++ Utf.enc p)) ∧ Below w.heap.size w w' := by
  obtain ⟨i0, hi, hz0, hz1, hz2⟩ := info_parts u8_info
  have hl := hA.len
  obtain ⟨Z, hZ, hmk⟩ := made_bytes w n (by omega)
  have hw4 : wrap64 ((n : Int) + 4) = (n : Int) + 4 := by unfold wrap64; omega
  obtain ⟨W2, HW2⟩ : ∃ W2, Hid (W2 = (w.alloc (.cells Z 5)).alloc (.cells #[.slice (some ⟨w.heap.size, 0, none⟩) n (n + 4)] 29)) := ⟨_, hide rfl⟩
  have hB2 : Below w.heap.size w W2 := by rw [HW2.out]; exact below_then (below_alloc _ _) (below_alloc _ _)
  have hg2 : W2.heap[w.heap.size]? = some (.cells Z 5 (0, 0)) := by rw [HW2.out]; exact ((below_alloc _ _).block _ (by simp)).trans (heap_alloc_new w _)
  have hx2 : Boxed W2 (w.heap.size + 1) 29 (.slice (some ⟨w.heap.size, 0, none⟩) n (n + 4)) := by rw [HW2.out]; have := Boxed.new (w.alloc (.cells Z 5)) 29 (.slice (some ⟨w.heap.size, 0, none⟩) n (n + 4)); simpa using this
  have hs2 : W2.heap.size = w.heap.size + 2 := by rw [HW2.out]; simp
  obtain ⟨W3, hcopy, hg3, hb3, hs3, ho3⟩ := run_copy_apart (P := Tryd.prog) W2 29 29 3 5 5 Tryd.underlying29 (by kernel_rfl) w.heap.size 0 n (n + 4) W2.heap.size A n c (bytes l) Z hg2 (hA.on hB2) (Nat.le_refl _) (by omega) bytes_one
  have HB3 := hide (hB2.trans hb3)
  have HX3 : Hid (Boxed W3 (w.heap.size + 1) 29 (.slice (some ⟨w.heap.size, 0, none⟩) n (n + 4))) := hide ((ho3 _ (by omega)).trans hx2)
  have HO3 : Hid (W3.ownsRow w.heap.size 5 1 (.slice (some ⟨w.heap.size, 0, none⟩) n (n + 4)) n (bytes l)) := hide ⟨by rw [bytes_len, hl, Nat.mul_one], .inr ⟨w.heap.size, n + 4, _, rfl, Nat.le_refl _, hg3, by omega, by unfold maxLen; omega, by simp [bytes_len, hl, hZ], by simp [← hl, bytes_len]⟩⟩
  have HS3 := hide (hs3.trans hs2)
  have hcp3 : W2.cell? ⟨w.heap.size + 1, 0, none⟩ = some (.slice (some ⟨w.heap.size, 0, none⟩) n (n + 4)) := hx2.cell
  have hc3 := HX3.out.cell
  have HL := hide hl
  rw [HW2.out] at hcopy hcp3
  clear hB2 hg2 hx2 hs2 hg3 hb3 hs3 ho3 hl hA hZ HW2
  refine (callsIn_wide (n := 9)).1 ?_
  refine callsIn_of_wp_marks Tryd.func44 rfl trivial ?_ rfl
  simp only [Tryd.ntmps44, List.size_toArray, List.length_cons, List.length_nil, Nat.reduceAdd, Nat.reduceSub, Array.replicate_succ, Array.replicate_zero, List.push_toArray, List.append_toArray, List.nil_append, List.cons_append]
  gi_wp2_with (refine ⟨trivial, ?_⟩; gi_at_call 54; refine (callsIn_wide.2 (bytes_any p _)).mono ?_; rintro e w' ⟨rfl, rfl⟩)
  have bP := (Boxed.new W3 75 (.int .i64 (p : Int))).alloc (.cells #[.int .i64 (Utf.sz p : Nat)] 3)
  have bN := Boxed.new (W3.alloc (.cells #[.int .i64 (p : Int)] 75)) 3 (.int .i64 (Utf.sz p : Nat))
  rw [World.size_alloc] at bN
  have hsz4 := Utf.sz_le (p : Int)
  refine wpIn_rangeFunc_ownG rfl (by omega) (gf := 63) (lb := #[.pointer (some ⟨W3.heap.size + 1, 0, none⟩), .pointer (some ⟨W3.heap.size, 0, none⟩)]) rfl trivial (enters_of Tryd.func63 (by kernel_rfl) rfl)
    (bytes_stops 8 (by omega) (W3.heap.size + 1) W3.heap.size p hcp _ bN.cell bP.cell) (fun h k => K2.trans h k)
    (fun W l o o' _ h hnc _ => ⟨fun v hv => cell_kept hv (grownBy_putObj' W l o') (fun r e => by cases e; exact ⟨_, h, hnc⟩), fun v hv => cell_kept hv (grownBy_putObj' W l o') (fun r e => by cases e; exact ⟨_, h, hnc⟩)⟩) (Below.refl _ _) (fun _ => rfl)
    (fun pre W => ((∃ v, Boxed W (w.heap.size + 1) 29 v ∧ W.ownsRow w.heap.size 5 1 v (n + pre.length) (bytes (l ++ pre)) ∧ True) ∧ Boxed W (W3.heap.size + 1) 3 (.int .i64 (Utf.sz p : Nat)) ∧ Boxed W W3.heap.size 75 (.int .i64 (p : Int))) ∧ Below w.heap.size w W)
    (fun _ _ _ => False)
    (OwnFrom.and (OwnFrom.and (Own.from (holdsRow_own w.heap.size (w.heap.size + 1) 29 5 1 (fun pre => n + pre.length) (fun pre => bytes (l ++ pre)) (fun _ _ => True)) _) (OwnFrom.and (Own.from (boxed_own (W3.heap.size + 1) 3 (fun _ => .int .i64 (Utf.sz p : Nat))) _) (Own.from (boxed_own W3.heap.size 75 (fun _ => .int .i64 (p : Int))) _))) (ownFrom_below (Nat.le_refl _) (by have := HS3.out; simp; omega)))
    (fun _ _ _ _ _ hs _ _ => hs)
    ⟨⟨⟨_, (HX3.out.alloc _).alloc _, by rw [List.append_nil]; exact (HO3.out.alloc _).alloc _, trivial⟩, bN, bP⟩, HB3.out.trans ((below_then (below_alloc W3 _) (below_alloc _ _)).mono (by have := HS3.out; omega))⟩
    (fun x => { tmps := #[.slice A n c, .int .i64 (p : Int), undef, undef, .slice none 0 0, .pointer (some ⟨w.heap.size + 1, 0, none⟩), .int .u8 (x.toNat : Int), .slice A n c, .int .i64 (n : Int), .slice A n c, .int .i64 (n : Int), .int .i64 ((n : Int) + 4), .slice (some ⟨w.heap.size, 0, none⟩) n (n + 4), .slice (some ⟨w.heap.size, 0, none⟩) n (n + 4), .slice A n c, .int .i64 (n : Int), .int .i64 (p : Int), .func (.func 63) #[] #[.pointer (some ⟨W3.heap.size + 1, 0, none⟩), .pointer (some ⟨W3.heap.size, 0, none⟩)], .int .u8 (x.toNat : Int), undef, undef, undef, undef, undef], defers := [] }) ?assign ?body ?done ?stop
  case assign =>
    intro l x W K hK
    gi_wp2
    exact hK
  case body =>
    rintro _ pre x W ⟨⟨⟨v, hv, hrow, _⟩, hbN, hbP⟩, hB⟩ hlt
    have hc := hv.cell
    clear hc3 hcp3 hmk hcopy
    gi_wp2_with (gi_at_builtin; refine wpListIn_append_own _ rfl _ _ 29 rfl w.heap.size 5 i0 (.int .u8 0) 1 1 Tryd.underlying29 hi hz0 hz1 hz2 rfl (by decide) _ _ _ rfl (hrow.alloc _) ⟨W.heap.size, 0, none⟩ 1 1 [.int .u8 (x.toNat : Int)] rfl rfl (cell_one_new _ _ _) (by simp [Value.oneCell']) (by unfold maxLen; omega) (by omega) (by have := hB.size; simp; omega) ?_; intro v' w1 hown' hgrow _; obtain ⟨g', cap', rfl⟩ := ownsRow_succ hown'; obtain ⟨hv1, hv2, hr2, hk2, hb2⟩ := hv.appended (by decide) hrow hB.size (by omega) hown' hgrow; have hc1 := hv1.cell; have hf1 := hv1.frozen)
    have hbN' := ((hbN.alloc (.cells #[.int .u8 (x.toNat : Int)] 5)).kept hgrow (hbN.not_row (by decide) hrow)).other (show W3.heap.size + 1 ≠ w.heap.size + 1 by have := HS3.out; omega) (.slice (some ⟨g', 0, none⟩) (n + pre.length + 1) cap')
    have hbP' := ((hbP.alloc (.cells #[.int .u8 (x.toNat : Int)] 5)).kept hgrow (hbP.not_row (by decide) hrow)).other (show W3.heap.size ≠ w.heap.size + 1 by have := HS3.out; omega) (.slice (some ⟨g', 0, none⟩) (n + pre.length + 1) cap')
    refine ⟨hk2.from _, ⟨fun u hu => ?_, fun u hu => ?_⟩, ⟨⟨_, hv2, ?_, trivial⟩, hbN', hbP'⟩, hB.trans hb2⟩
    · rw [hbN.cell] at hu; rw [← hu]; exact hbN'.cell
    · rw [hbP.cell] at hu; rw [← hu]; exact hbP'.cell
    · rw [List.length_append, ← List.append_assoc, bytes_append]; exact hr2
  case done =>
    rintro D ys W hD rfl ⟨⟨⟨v, hv, hrow, _⟩, _, _⟩, hB⟩ hK
    have hc := hv.cell
    gi_wp2
    refine ⟨by simp, .inl ⟨_, _, rfl, run_takeDeferred hK, ?_⟩⟩
    exact ⟨_, results_tmp rfl _ _ _, v, rfl, ownsRow_putObj hrow _ hK rfl, hB.trans (belowK_b (w := w) (Nat.le_refl _) W D _ _ (by have := HS3.out; simp at hD; omega) hK rfl rfl)⟩
  case stop =>
    rintro D c pre W _ _ h _
    exact h.elim
/-- what Put answers -/
def PutAs (n : Nat) (l : List UInt8) (cp : Int) (w : World) (e : Ending) (w' : World) : Prop := Below w.heap.size w w' ∧ if Utf.isCp cp = true then ∃ v, e = .returned (.tuple #[v, .int .i64 0]) ∧ w'.ownsRow w.heap.size 5 1 v (n + (Utf.enc cp.toNat).length) (bytes (l ++ Utf.enc cp.toNat))
      else e = .returned (.tuple #[.slice none 0 0, .int .i64 110])
theorem Put_any (A : Option Addr) (n c : Nat) (cp : Int) (l : List UInt8) (w : World) (hA : RB w A n l) (hn : n ≤ 100000) :
    Calls Tryd.prog 26 #[.slice A n c, .int .i64 cp] w (PutAs n l cp w) := by
  by_cases h : Utf.isCp cp = true
  · have h0 := Utf.isCp_iff.1 h
    obtain ⟨p, rfl⟩ : ∃ p : Nat, cp = (p : Int) := ⟨cp.toNat, by omega⟩
    have hz : ((Utf.sz p : Int) == 0) = false := by rw [beq_eq_false_iff_ne]; have := Utf.sz_pos.2 h; omega
    have HP := hide (put_any A n c p l w hA hn h)
    have HH := hide h
    clear h h0
    go_enter Tryd.func26, Tryd.ntmps26
    go_wp2_with fail
    refine Calls.mono (size_any (p : Int) w) ?_
    rintro e w1 ⟨rfl, rfl⟩
    go_wp2_with fail
    refine Calls.mono HP.out ?_
    rintro e w2 ⟨v, rfl, ho, hb⟩
    go_wp2_with fail
    go_ret2
    refine ⟨hb, ?_⟩
    rw [if_pos HH.out, Int.toNat_natCast]
    exact ⟨v, rfl, ho⟩
  · have HH := hide h
    have hz : Utf.sz cp = 0 := by
      rcases Nat.eq_zero_or_pos (Utf.sz cp) with h1 | h1
      · exact h1
      · exact absurd (Utf.sz_pos.1 h1) h
    clear h
    go_enter Tryd.func26, Tryd.ntmps26
    go_wp2_with fail
    refine Calls.mono (size_any cp w) ?_
    rintro e w1 ⟨rfl, rfl⟩
    rw [hz]
    go_wp2_with fail
    go_ret2
    refine ⟨Below.refl _ _, ?_⟩
    rw [if_neg HH.out]
    rfl
end Go.Proofs.YtbnibiealnogdaaDoor
