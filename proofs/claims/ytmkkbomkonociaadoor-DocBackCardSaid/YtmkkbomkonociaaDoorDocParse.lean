/- The walk of doc's ParseRev. -/
import Derived.Test.YtmkkbomkonociaaDoorDocScan
import Derived.Laws.RangeAny
import Derived.Deep.DeepCutAuto
import Derived.Deep.CutBlock
namespace Go.Proofs.YtmkkbomkonociaaDoor
open Go.RowKit

theorem scan_lt (l : List UInt8) : ∀ (g m : Nat) (b : Bool), m < 4294967296 → (scan l g m b).2 < 4294967296 := by
  induction l with
  | nil => intro g m b h; exact h
  | cons c l ih =>
    intro g m b h
    cases b with
    | true =>
      unfold scan
      split
      · exact ih _ _ _ (by omega)
      · exact h
    | false =>
      unfold scan
      split
      · split
        · exact h
        · exact ih _ _ _ h
      · split
        · exact ih _ _ _ h
        · exact h
theorem scan_gen (l : List UInt8) : ∀ (g m : Nat) (b : Bool), g ≤ 4294967295 → (scan l g m b).1 ≤ 42949672959 := by
  induction l with
  | nil => intro g m b h; simp only [scan]; omega
  | cons c l ih =>
    intro g m b h
    cases b with
    | true =>
      unfold scan
      split
      · exact ih _ _ _ h
      · simp only; omega
    | false =>
      unfold scan
      split
      · split
        · simp only; omega
        · exact ih _ _ _ (by omega)
      · split
        · exact ih _ _ _ h
        · simp only; omega
/-- the revision of a text, and the error -/
def parsed (l : List UInt8) : Option (Nat × Nat) :=
  let g := (scan l 0 0 false).1 % 4294967296
  let m := (scan l 0 0 false).2
  if isRev g m = true ∧ revText g m = l then some (g, m) else none
def ParsedAs (l : List UInt8) (w : World) (e : Ending) (w' : World) : Prop :=
  Below w.heap.size w w' ∧ e = .returned (match parsed l with
    | some (g, m) => .tuple #[.agg #[.int .u32 (g : Int), .int .u32 (m : Int)], .int .i64 0]
    | none => .tuple #[.agg #[.int .u32 0, .int .u32 0], .int .i64 291])

theorem heap_set (w : World) (g k : Nat) (cs : Array Value) (t : TypeId) (fr : Nat × Nat) (v : Value) (h : w.heap[g]? = some (.cells cs t fr)) : (w.setCell ⟨g, k, none⟩ v).heap[g]? = some (.cells (cs.setIfInBounds k v) t fr) := by
  simp [World.setCell, Array.getElem?_modify, h]
theorem shl_or (m d : Nat) (_hm : m < 4294967296) (hd : d < 16) : Go.bits .or .u32 (((m * 16 % 4294967296 : Nat)) : Int) (d : Int) = ((m * 16 % 4294967296 + d : Nat) : Int) := by
  rw [u32_or_nat _ _ (by omega) (by omega)]
  congr 1
  have h : m * 16 % 4294967296 = 2 ^ 4 * (m % 268435456) := by omega
  rw [h, Nat.two_pow_add_eq_or_of_lt (by omega : d < 2 ^ 4)]

theorem parserev_any (s : ByteArray) (w : World) (_hs : s.size ≤ 1048576) : Calls Tryd.prog 6 #[.string s] w (ParsedAs s.data.toList w) := by
  go_enter Tryd.func6, Tryd.ntmps6
  go_wp2_with fail
  go_step3
  go_wp2_with fail
  go_step3
  go_upto_block 0 with (fail)
  have HW := hide (show ((w.alloc (.cells #[.int .u32 0, .int .u32 0] 24)).alloc (.cells #[.int .u32 0, .int .u32 0] 24)).heap.size = w.heap.size + 1 + 1 by simp)
  have HB := hide ((below_alloc w (.cells #[.int .u32 0, .int .u32 0] 24)).alloc (by simp) (.cells #[.int .u32 0, .int .u32 0] 24))
  have HH0 := hide (show ((w.alloc (.cells #[.int .u32 0, .int .u32 0] 24)).alloc (.cells #[.int .u32 0, .int .u32 0] 24)).heap[w.heap.size]? = some (.cells #[.int .u32 0, .int .u32 0] 24) by rw [heap_alloc_old _ _ (by simp), heap_alloc_new])
  have HH1 := hide (show ((w.alloc (.cells #[.int .u32 0, .int .u32 0] 24)).alloc (.cells #[.int .u32 0, .int .u32 0] 24)).heap[w.heap.size + 1]? = some (.cells #[.int .u32 0, .int .u32 0] 24) from heap_at _ _ _ (by simp))
  generalize (w.alloc (.cells #[.int .u32 0, .int .u32 0] 24)).alloc (.cells #[.int .u32 0, .int .u32 0] 24) = W at *
  go_cut [5, 6] (fun s5 s6 wx => ∃ pos : Nat, s5 = .int .u64 ((scan s.data.toList 0 0 false).1 : Int) ∧ s6 = .int .u32 ((scan s.data.toList 0 0 false).2 : Int) ∧ wx = W.iter s pos)
  case first =>
    go_wp2_with fail
    go_loopw [5, 6, 7] (fun a b c wr => ∃ (pos g m : Nat) (bh : Bool), a = .int .u64 g ∧ b = .int .u32 m ∧ c = .bool bh ∧ wr = W.iter s pos ∧ pos ≤ s.size ∧ Hid (scan (s.data.toList.drop pos) g m bh = scan s.data.toList 0 0 false) ∧ Hid (g ≤ 4294967295 ∧ m < 4294967296)) (fun _ _ _ wr => s.size - wr.iterPos W.heap.size)
    case atStart => exact ⟨0, 0, 0, false, rfl, rfl, rfl, rfl, Nat.zero_le _, hide rfl, hide (by omega)⟩
    case round =>
      obtain ⟨pos, g, m, bh, rfl, rfl, rfl, rfl, hpos, hsc, hbd⟩ := hrel
      by_cases hp : pos < s.size
      · have hdrop : s.data.toList.drop pos = s[pos] :: s.data.toList.drop (pos + 1) := List.drop_eq_getElem_cons (by simpa using hp)
        have HDR := hide hdrop
        clear hdrop
        by_cases ha : (s[pos]).toNat < 128
        · have hnx : ∀ ty, (Instr.next (.pointer (some ⟨w.heap.size + 1 + 1, 0, none⟩)) true ty).run Tryd.prog (W.iter s pos) = .ok (.tuple #[.bool true, .int .i64 pos, .int .i32 (s[pos]).toNat]) (W.iter s (pos + 1)) := fun ty => by rw [← HW.out]; exact run_next_ascii W s pos ty hp ha
          have HDG := hide (digit_any ((s[pos]).toNat : Int))
          obtain ⟨d, hd⟩ : ∃ d, d = digitN ((s[pos]).toNat : Int) := ⟨_, rfl⟩
          have HD := hide hd
          have h45 : (((s[pos]).toNat : Int) == 45) = decide ((s[pos]).toNat = 45) := by rw [Bool.eq_iff_iff, beq_iff_eq, decide_eq_true_eq]; omega
          clear hd
          generalize hx : (s[pos]).toNat = x at *
          have HX := hide hx
          clear hx
          cases bh with
          | true =>
            by_cases hd16 : d < 16
            · go_wp2_with (go_at_call 13; refine (HDG.out _ (by omega) (by omega)).mono ?_; rintro e w' ⟨rfl, rfl⟩; rw [← HD.out])
              have hs2 := hsc.out
              rw [HDR.out, scan, HX.out, ← HD.out, if_pos hd16] at hs2
              have hb2 := hbd.out
              refine ⟨⟨pos + 1, g, m * 16 % 4294967296 + d, true, rfl, ?_, rfl, rfl, by omega, hide hs2, hide ⟨hb2.1, by omega⟩⟩, ?_⟩
              · rw [show (m : Int) * 16 % 4294967296 = ((m * 16 % 4294967296 : Nat) : Int) by omega, shl_or _ _ hb2.2 hd16]
              · simp; omega
            · have HF := hide (show scan s.data.toList 0 0 false = (g, m) by
                rw [← hsc.out, HDR.out, scan, HX.out, ← HD.out, if_neg hd16])
              go_wp2_with (go_at_call 13; refine (HDG.out _ (by omega) (by omega)).mono ?_; rintro e w' ⟨rfl, rfl⟩; rw [← HD.out])
              go_meet
              exact ⟨pos + 1, by rw [HF.out], by rw [HF.out], rfl⟩
          | false =>
            by_cases hd10 : d < 10
            · by_cases hov : 4294967295 < 10 * g + d
              · have HF := hide (show scan s.data.toList 0 0 false = (10 * g + d, m) by
                  rw [← hsc.out, HDR.out, scan, HX.out, ← HD.out, if_pos hd10, if_pos hov])
                have HO := hide hov
                have hw1 : IntKind.u64.wrap (10 * (g : Int)) = 10 * (g : Int) := by have := hbd.out; unfold IntKind.wrap; simp [IntKind.signed, IntKind.bits]; omega
                have hw2 : IntKind.u64.wrap (10 * (g : Int) + (d : Int)) = 10 * (g : Int) + (d : Int) := by have := hbd.out; unfold IntKind.wrap; simp [IntKind.signed, IntKind.bits]; omega
                have hw3 : IntKind.u64.wrap (d : Int) = (d : Int) := by unfold IntKind.wrap; simp [IntKind.signed, IntKind.bits]; omega
                have ht : decide ((4294967295 : Int) < 10 * (g : Int) + (d : Int)) = true := by rw [decide_eq_true_eq]; omega
                clear hov
                go_wp2_with (go_at_call 13; refine (HDG.out _ (by omega) (by omega)).mono ?_; rintro e w' ⟨rfl, rfl⟩; rw [← HD.out])
                go_meet
                exact ⟨pos + 1, by rw [HF.out]; first | rfl | (congr 1; omega), by rw [HF.out], rfl⟩
              · have hs2 := hsc.out
                rw [HDR.out, scan, HX.out, ← HD.out, if_pos hd10, if_neg hov] at hs2
                have HS2 := hide hs2
                have HO := hide hov
                have hw1 : IntKind.u64.wrap (10 * (g : Int)) = 10 * (g : Int) := by have := hbd.out; unfold IntKind.wrap; simp [IntKind.signed, IntKind.bits]; omega
                have hw2 : IntKind.u64.wrap (10 * (g : Int) + (d : Int)) = 10 * (g : Int) + (d : Int) := by have := hbd.out; unfold IntKind.wrap; simp [IntKind.signed, IntKind.bits]; omega
                have hw3 : IntKind.u64.wrap (d : Int) = (d : Int) := by unfold IntKind.wrap; simp [IntKind.signed, IntKind.bits]; omega
                have ht : decide ((4294967295 : Int) < 10 * (g : Int) + (d : Int)) = false := by rw [decide_eq_false_iff_not]; omega
                clear hov hs2
                go_wp2_with (go_at_call 13; refine (HDG.out _ (by omega) (by omega)).mono ?_; rintro e w' ⟨rfl, rfl⟩; rw [← HD.out])
                refine ⟨⟨pos + 1, 10 * g + d, m, false, ?_, rfl, rfl, rfl, by omega, HS2, hide ⟨by have := HO.out; omega, hbd.out.2⟩⟩, ?_⟩
                · first | rfl | (congr 1; omega)
                · simp; omega
            · by_cases hx45 : x = 45
              · have hs2 := hsc.out
                rw [HDR.out, scan, HX.out, ← HD.out, if_neg hd10, if_pos hx45] at hs2
                have HS2 := hide hs2
                have ht : ((x : Int) == 45) = true := by rw [h45]; simpa using hx45
                have hX45 := hide hx45
                clear hs2 h45 hx45
                go_wp2_with (go_at_call 13; refine (HDG.out _ (by omega) (by omega)).mono ?_; rintro e w' ⟨rfl, rfl⟩; rw [← HD.out])
                exact ⟨⟨pos + 1, g, m, true, rfl, rfl, rfl, rfl, by omega, HS2, hbd⟩, by simp; omega⟩
              · have HF := hide (show scan s.data.toList 0 0 false = (g, m) by
                  rw [← hsc.out, HDR.out, scan, HX.out, ← HD.out, if_neg hd10, if_neg hx45])
                have ht : ((x : Int) == 45) = false := by rw [h45]; simpa using hx45
                have hX45 := hide hx45
                clear h45 hx45
                go_wp2_with (go_at_call 13; refine (HDG.out _ (by omega) (by omega)).mono ?_; rintro e w' ⟨rfl, rfl⟩; rw [← HD.out])
                go_meet
                exact ⟨pos + 1, by rw [HF.out], by rw [HF.out], rfl⟩
        · obtain ⟨hr1, hr2⟩ := decode_high s pos hp (by omega)
          have hlt := (s[pos]).toNat_lt
          have hr3 := decode_le s pos
          have hnx : ∀ ty, (Instr.next (.pointer (some ⟨w.heap.size + 1 + 1, 0, none⟩)) true ty).run Tryd.prog (W.iter s pos) = .ok (.tuple #[.bool true, .int .i64 pos, .int .i32 (Utf8.decode s pos).1]) (W.iter s (pos + (Utf8.decode s pos).2)) := fun ty => by rw [← HW.out]; exact run_next_any W s pos ty hp
          have HF := hide (show scan s.data.toList 0 0 false = (g, m) by
            have hd : digitN ((s[pos]).toNat : Int) = 16 := by unfold digitN; rw [if_neg (by omega), if_neg (by omega)]
            rw [← hsc.out, HDR.out]
            cases bh with
            | true => rw [scan, hd, if_neg (by omega)]
            | false => rw [scan, hd, if_neg (by omega), if_neg (by omega)])
          generalize (Utf8.decode s pos).1 = r at *
          generalize pos + (Utf8.decode s pos).2 = pos2 at *
          have HDG := hide (digit_any (r : Int))
          have HR16 : Hid (digitN (r : Int) = 16) := hide (by unfold digitN; rw [if_neg (by omega), if_neg (by omega)])
          have h45 : ((r : Int) == 45) = false := by rw [beq_eq_false_iff_ne]; omega
          cases bh with
          | true =>
            go_wp2_with (go_at_call 13; refine (HDG.out _ (by omega) (by omega)).mono ?_; rintro e w' ⟨rfl, rfl⟩; rw [HR16.out])
            go_meet
            exact ⟨pos2, by rw [HF.out], by rw [HF.out], rfl⟩
          | false =>
            go_wp2_with (go_at_call 13; refine (HDG.out _ (by omega) (by omega)).mono ?_; rintro e w' ⟨rfl, rfl⟩; rw [HR16.out])
            go_meet
            exact ⟨pos2, by rw [HF.out], by rw [HF.out], rfl⟩
      · have hnx : ∀ ty, (Instr.next (.pointer (some ⟨w.heap.size + 1 + 1, 0, none⟩)) true ty).run Tryd.prog (W.iter s pos) = .ok (.tuple #[.bool false]) (W.iter s pos) := fun ty => by rw [← HW.out]; exact run_next_end W s pos ty hp
        have HF := hide (show scan s.data.toList 0 0 false = (g, m) by
          rw [← hsc.out, List.drop_eq_nil_of_le (by simpa using hp)]; cases bh <;> rfl)
        go_wp2_with fail
        go_meet
        exact ⟨pos, by rw [HF.out], by rw [HF.out], rfl⟩
  case rest =>
    obtain ⟨pos, rfl, rfl, rfl⟩ := hcut
    have hg := scan_gen s.data.toList 0 0 false (by omega)
    have hm := scan_lt s.data.toList 0 0 false (by omega)
    have hP : parsed s.data.toList = if isRev ((scan s.data.toList 0 0 false).1 % 4294967296) (scan s.data.toList 0 0 false).2 = true ∧ revText ((scan s.data.toList 0 0 false).1 % 4294967296) (scan s.data.toList 0 0 false).2 = s.data.toList then some ((scan s.data.toList 0 0 false).1 % 4294967296, (scan s.data.toList 0 0 false).2) else none := rfl
    generalize (scan s.data.toList 0 0 false).2 = m at *
    have hcv : IntKind.u32.wrap ((scan s.data.toList 0 0 false).1 : Int) = (((scan s.data.toList 0 0 false).1 % 4294967296 : Nat) : Int) := by
      unfold IntKind.wrap; simp [IntKind.signed, IntKind.bits]
    generalize (scan s.data.toList 0 0 false).1 = gg at *
    obtain ⟨g, hgg⟩ : ∃ g, g = gg % 4294967296 := ⟨_, rfl⟩
    rw [← hgg] at hP hcv
    have HP := hide hP
    have HM := hide (And.intro (show g < 4294967296 by omega) hm)
    have hi0 : (W.iter s pos).heap[w.heap.size]? = some (.cells #[.int .u32 0, .int .u32 0] 24) := by
      rw [← HH0.out]; exact heap_alloc_old _ _ (by rw [HW.out]; omega)
    have hi1 : (W.iter s pos).heap[w.heap.size + 1]? = some (.cells #[.int .u32 0, .int .u32 0] 24) := by
      rw [← HH1.out]; exact heap_alloc_old _ _ (by rw [HW.out]; omega)
    have hIB : Below w.heap.size w (W.iter s pos) := HB.out.alloc HB.out.size _
    have hsz : w.heap.size + 2 < (W.iter s pos).heap.size := by
      have : (W.iter s pos).heap.size = W.heap.size + 1 := by simp [World.iter]
      rw [this, HW.out]; omega
    generalize W.iter s pos = V at *
    have HIB := hide hIB
    have HI0 := hide hi0
    have HI1 := hide hi1
    have c0 := cell_of_row _ _ 0 _ _ _ hi1
    have c1 := cell_of_row _ _ 1 _ _ _ hi1
    have f0 := frozen_of_row _ _ 0 _ _ hi1
    have f1 := frozen_of_row _ _ 1 _ _ hi1
    clear hg hm hP hgg hIB hi0 hi1 HH0 HH1 HW HB
    go_wp2_with fail
    have hv1 := heap_set (V.setCell ⟨w.heap.size + 1, 0, none⟩ (.int .u32 (g : Int))) (w.heap.size + 1) 1 _ _ _ (.int .u32 (m : Int)) (heap_set V (w.heap.size + 1) 0 _ _ _ (.int .u32 (g : Int)) HI1.out)
    have hv0 : ((V.setCell ⟨w.heap.size + 1, 0, none⟩ (.int .u32 (g : Int))).setCell ⟨w.heap.size + 1, 1, none⟩ (.int .u32 (m : Int))).heap[w.heap.size]? = some (.cells #[.int .u32 0, .int .u32 0] 24) := by
      rw [heap_setCell_other _ _ _ _ (by simp), heap_setCell_other _ _ _ _ (by simp)]; exact HI0.out
    have hvb := hide ((HIB.out.setCell (p := ⟨w.heap.size + 1, 0, none⟩) (by simp) (.int .u32 (g : Int))).setCell (p := ⟨w.heap.size + 1, 1, none⟩) (by simp) (.int .u32 (m : Int)))
    have hvs : w.heap.size + 2 < ((V.setCell ⟨w.heap.size + 1, 0, none⟩ (.int .u32 (g : Int))).setCell ⟨w.heap.size + 1, 1, none⟩ (.int .u32 (m : Int))).heap.size := by simpa using hsz
    refine Calls.mono (revtext_any g m _ HM.out.1 HM.out.2) ?_
    generalize (V.setCell ⟨w.heap.size + 1, 0, none⟩ (.int .u32 (g : Int))).setCell ⟨w.heap.size + 1, 1, none⟩ (.int .u32 (m : Int)) = V1 at *
    rintro e w3 ⟨rfl, hb3⟩
    have h31 := (hb3.block (w.heap.size + 1) (by omega)).trans hv1
    have h30 := (hb3.block w.heap.size (by omega)).trans hv0
    have HB3 := hide (below_then hvb.out hb3)
    have H31 := hide h31
    have H30 := hide h30
    have c0 := cell_of_row _ _ 0 _ _ _ h30
    have c1 := cell_of_row _ _ 1 _ _ _ h30
    have f0 := frozen_of_row _ _ 0 _ _ h30
    have f1 := frozen_of_row _ _ 1 _ _ h30
    have d0 := cell_of_row _ _ 0 _ _ _ h31
    have d1 := cell_of_row _ _ 1 _ _ _ h31
    clear h30 h31 hv0 hv1 hb3 hvs
    cases hb : isRev g m with
    | false =>
      have HE := hide (show revErr g m = 291 by simp [revErr, hb])
      have HF := hide (show parsed s.data.toList = none by rw [HP.out, if_neg (by rw [hb]; simp)])
      clear hb
      rw [HE.out]
      go_wp2_with fail
      rw [Exit.noGoto_ret]
      have q1 := heap_set (w3.setCell ⟨w.heap.size, 0, none⟩ (.int .u32 0)) w.heap.size 1 _ _ _ (.int .u32 0) (heap_set w3 w.heap.size 0 _ _ _ (.int .u32 0) H30.out)
      have r0 := cell_of_row _ _ 0 _ _ _ q1
      have r1 := cell_of_row _ _ 1 _ _ _ q1
      have q3 := hide ((HB3.out.setCell (p := ⟨w.heap.size, 0, none⟩) (Nat.le_refl _) (.int .u32 0)).setCell (p := ⟨w.heap.size, 1, none⟩) (Nat.le_refl _) (.int .u32 0))
      generalize (w3.setCell ⟨w.heap.size, 0, none⟩ (.int .u32 0)).setCell ⟨w.heap.size, 1, none⟩ (.int .u32 0) = V9 at *
      exact bodyPost_ret (v := .tuple #[.agg #[.int .u32 0, .int .u32 0], .int .i64 291]) (by simp [results, Tryd.results6, go_sem, r0, r1]) rfl ⟨q3.out, by rw [HF.out]⟩
    | true =>
      have HE := hide (show revErr g m = 0 by simp [revErr, hb])
      by_cases hrt : revText g m = s.data.toList
      · have HF := hide (show parsed s.data.toList = some (g, m) by rw [HP.out, if_pos ⟨hb, hrt⟩])
        have ht : ((str (revText g m)).toList == s.toList) = true := by
          rw [hrt, show str s.data.toList = s from rfl]; simp
        clear hb hrt
        rw [HE.out]
        go_wp2_with fail
        rw [Exit.noGoto_ret]
        have q1 := heap_set (w3.setCell ⟨w.heap.size, 0, none⟩ (.int .u32 (g : Int))) w.heap.size 1 _ _ _ (.int .u32 (m : Int)) (heap_set w3 w.heap.size 0 _ _ _ (.int .u32 (g : Int)) H30.out)
        have r0 := cell_of_row _ _ 0 _ _ _ q1
        have r1 := cell_of_row _ _ 1 _ _ _ q1
        have q3 := hide ((HB3.out.setCell (p := ⟨w.heap.size, 0, none⟩) (Nat.le_refl _) (.int .u32 (g : Int))).setCell (p := ⟨w.heap.size, 1, none⟩) (Nat.le_refl _) (.int .u32 (m : Int)))
        generalize (w3.setCell ⟨w.heap.size, 0, none⟩ (.int .u32 (g : Int))).setCell ⟨w.heap.size, 1, none⟩ (.int .u32 (m : Int)) = V9 at *
        exact bodyPost_ret (v := .tuple #[.agg #[.int .u32 (g : Int), .int .u32 (m : Int)], .int .i64 0]) (by simp [results, Tryd.results6, go_sem, r0, r1]) rfl ⟨q3.out, by rw [HF.out]⟩
      · have HF := hide (show parsed s.data.toList = none by rw [HP.out, if_neg (fun h => hrt h.2)])
        have ht : ((str (revText g m)).toList == s.toList) = false := by
          rw [beq_eq_false_iff_ne]
          intro h
          refine hrt ?_
          rw [str_toList] at h
          rw [h, show s = str s.data.toList from rfl, str_toList]; rfl
        clear hb hrt
        rw [HE.out]
        go_wp2_with fail
        rw [Exit.noGoto_ret]
        have q1 := heap_set (w3.setCell ⟨w.heap.size, 0, none⟩ (.int .u32 0)) w.heap.size 1 _ _ _ (.int .u32 0) (heap_set w3 w.heap.size 0 _ _ _ (.int .u32 0) H30.out)
        have r0 := cell_of_row _ _ 0 _ _ _ q1
        have r1 := cell_of_row _ _ 1 _ _ _ q1
        have q3 := hide ((HB3.out.setCell (p := ⟨w.heap.size, 0, none⟩) (Nat.le_refl _) (.int .u32 0)).setCell (p := ⟨w.heap.size, 1, none⟩) (Nat.le_refl _) (.int .u32 0))
        generalize (w3.setCell ⟨w.heap.size, 0, none⟩ (.int .u32 0)).setCell ⟨w.heap.size, 1, none⟩ (.int .u32 0) = V9 at *
        exact bodyPost_ret (v := .tuple #[.agg #[.int .u32 0, .int .u32 0], .int .i64 291]) (by simp [results, Tryd.results6, go_sem, r0, r1]) rfl ⟨q3.out, by rw [HF.out]⟩
end Go.Proofs.YtmkkbomkonociaaDoor
