/- The walk of merged. -/
import Derived.Test.YtgliindhndcceaaMgInit
import Derived.Test.YtgliindhndcceaaDag
import Derived.Deep.LoopGhost
namespace Go.Proofs.Ytgliindhndcceaa
open Go.RowKit
attribute [local go_sem] Dag.gives

theorem edit_info : (Try.prog.info? 48).map (fun i => (i.zero, i.size, i.bytes)) = some (some (.agg #[.slice none 0 0, .bool false, .slice none 0 0, .bool false, .int .i64 0]), 5, 72) := by kernel_rfl
/-- what merged answers -/
def MergedAs (T : List Ed) (w : World) (e : Ending) (w' : World) : Prop := Below w.heap.size w w' ∧
  if T.length ≤ 512 then ∃ v, e = .returned (.tuple #[v, .int .i64 0]) ∧ w'.ownsRow w.heap.size 48 5 v T.length (cellsE T) else e = .returned (.tuple #[.slice none 0 0, .int .i64 3])
theorem rest_ok {w : World} {B : Nat} {A : Option Addr} {n c j : Nat} {L : List Rw} (h : Rows2 w B A n c L) {s : Rst} (hs : s ∈ rsOf (L.take j) 0) : s.Ok w B := by
  obtain ⟨_, _, h3, l, hl, e1, e2, e3, e4⟩ := rsOf_pl hs
  have := h.ok l (List.mem_of_mem_take hl)
  exact ⟨by rw [e1, e2, e3, e4]; exact this, h3⟩
theorem rsOf_take {L : List Rw} {j : Nat} (hj : j < L.length) : rsOf (L.take (j + 1)) 0 = rsOf (L.take j) 0 ++ (if L[j].row = [] then [] else [⟨L[j].A, L[j].n, L[j].c, L[j].row, j⟩]) := by
  rw [List.take_succ_eq_append_getElem hj, rsOf_snoc, Nat.zero_add, List.length_take, Nat.min_eq_left (by omega)]
/-- THE HEAP IN MEMORY while it is emptied -/
def H2 (w : World) (F B : Nat) (H : List Rst) : Prop := (∃ A c, w.heap[F]? = some (.cells #[.slice A H.length c] 68 (0, 0))) ∧ (0 < H.length → ∃ g cap full, B ≤ g ∧ Hp w F g cap full H)
theorem Hq.h2 {w : World} {F B : Nat} {H : List Rst} (h : Hq w F B H) : H2 w F B H := by
  refine ⟨?_, fun hl => ?_⟩
  · obtain ⟨v, hF, hown⟩ := h
    obtain ⟨A, c, rfl, _⟩ := own_slice hown
    exact ⟨A, c, hF⟩
  · obtain ⟨g, cap, hb, hp⟩ := h.hp hl
    exact ⟨g, cap, cap, hb, hp⟩
theorem lenc_any (F n c : Nat) (A : Option Addr) (w : World) (hc : w.cell? ⟨F, 0, none⟩ = some (.slice A n c)) :
    Calls Try.prog 42 #[.pointer (some ⟨F, 0, none⟩)] w fun e w' => e = .returned (.int .i64 (n : Int)) ∧ w' = w := by
  go_enter Try.func42, Try.ntmps42
  go_wp2_with fail
  go_ret
  exact ⟨rfl, rfl⟩
def mu (H : List Rst) : Nat := (H.map fun r => r.row.length).sum
theorem mu_perm {H K : List Rst} (h : H.Perm K) : mu H = mu K := (h.map _).sum_nat
theorem mu_tail {r0 r1 : Rst} {rest : List Rst} {x : Ed} {t : List Ed} (hr : r0.row = x :: t) (h1 : r1.row = r0.row.tail) : mu (tail_ r0 rest r1) + 1 = mu (r0 :: rest) := by
  unfold tail_ mu
  rw [hr, List.tail_cons]
  rw [hr, List.tail_cons] at h1
  split
  · rename_i ht
    subst ht
    simp [hr]
    omega
  · simp [hr, h1]
    omega
theorem srt_mem {y : Ed} (l : List Ed) : y ∈ srt l → y ∈ l := by
  induction l using snoc_ind with
  | h0 => exact id
  | hs l x ih => rw [srt_snoc]; exact fun h => (ins_mem h).elim (fun e => by rw [e]; simp) (fun h => by have := ih h; simp [this])
theorem Row.first {w : World} {B : Nat} {A : Option Addr} {n c : Nat} {x : Ed} {t : List Ed} (h : Row w B A n c (x :: t)) : ∃ b o, A = some ⟨b, o, none⟩ ∧ b < B ∧ n = t.length + 1 ∧
    w.cell? ⟨b, o, none⟩ = some (.slice x.kA x.kn x.kc) ∧ w.cell? ⟨b, o + 1, none⟩ = some (.bool x.put) ∧ w.cell? ⟨b, o + 2, none⟩ = some (.slice x.vA x.vn x.vc) ∧ w.cell? ⟨b, o + 3, none⟩ = some (.bool x.int) ∧ w.cell? ⟨b, o + 4, none⟩ = some (.int .i64 x.n) := by
  obtain ⟨b, o, hA, hb, h0, h1, h2, h3, h4⟩ := h.cell (k := 0) (by simp)
  have := h.len
  simp only [Nat.zero_mul, Nat.add_zero, List.getElem_cons_zero] at h0 h1 h2 h3 h4
  exact ⟨b, o, hA, hb, by simp at this; omega, h0, h1, h2, h3, h4⟩
theorem Hp.kept {w w' : World} {F g cap full base sz n : Nat} {H : List Rst} {v : Value} {xs : List Value} (h : Hp w F g cap full H) (hg : w.grownBy w' v.ownBlock) (ho : w.ownsRow base 48 sz v n xs) : Hp w' F g cap full H := by
  obtain ⟨cur, hgc, ht, hs⟩ := h.hg
  have a1 := own_apart ho h.hf (by decide)
  have a2 := own_apart ho hgc (by decide)
  refine ⟨(hg.block F (lt_cells h.hf) (fun e => ?_)).trans h.hf, ⟨cur, (hg.block g (lt_cells hgc) (fun e => ?_)).trans hgc, ht, hs⟩, h.ne, h.len, h.fit, h.max⟩
  · rcases a1 with a | a
    · rw [a] at e; cases e
    · exact a e.symm
  · rcases a2 with a | a
    · rw [a] at e; cases e
    · exact a e.symm
theorem H2.kept {w w' : World} {F B base sz n : Nat} {H : List Rst} {v : Value} {xs : List Value} (h : H2 w F B H) (hg : w.grownBy w' v.ownBlock) (ho : w.ownsRow base 48 sz v n xs) : H2 w' F B H := by
  obtain ⟨⟨A, c, hF⟩, h2⟩ := h
  refine ⟨⟨A, c, ?_⟩, fun hl => ?_⟩
  · refine (hg.block F (lt_cells hF) (fun e => ?_)).trans hF
    rcases own_apart ho hF (by decide) with a | a
    · rw [a] at e; cases e
    · exact a e.symm
  · obtain ⟨g, cap, full, hb, hp⟩ := h2 hl
    exact ⟨g, cap, full, hb, hp.kept hg ho⟩
theorem H2.on {w w' : World} {F B : Nat} {H : List Rst} (h : H2 w F B H) (hb : Below w.heap.size w w') : H2 w' F B H := by
  obtain ⟨⟨A, c, hF⟩, h2⟩ := h
  refine ⟨⟨A, c, on_cells hF hb⟩, fun hl => ?_⟩
  obtain ⟨g, cap, full, hbg, hp⟩ := h2 hl
  exact ⟨g, cap, full, hbg, hp.on hb⟩
theorem own_fr {w w' : World} {F g cap full base sz n : Nat} {H : List Rst} {v : Value} {xs : List Value} (ho : w.ownsRow base 48 sz v n xs) (h : Hp w F g cap full H) (hf : Fr F g w w') : w'.ownsRow base 48 sz v n xs := by
  obtain ⟨cur, hgc, _, _⟩ := h.hg
  refine ⟨ho.1, ?_⟩
  rcases ho.2 with hn | ⟨k, cap', cur', rfl, hb, hk, hr⟩
  · exact .inl hn
  · refine .inr ⟨k, cap', cur', rfl, hb, (hf.block k (lt_cells hk) ?_ ?_).trans hk, hr⟩
    · rintro rfl
      have := h.hf
      rw [hk] at this
      simp at this
    · rintro rfl
      rw [hk] at hgc
      simp at hgc
theorem own_key {w : World} {base p c : Nat} {t : TypeId} {A : Option Addr} {l : List Ed} (h : w.ownsRow base t 5 (.slice A p c) p (cellsE l)) {k : Nat} (hk : k < l.length) : ∃ b, A = some ⟨b, 0, none⟩ ∧ w.cell? ⟨b, k * 5, none⟩ = some (.slice l[k].kA l[k].kn l[k].kc) := by
  have hl : l.length = p := by have := h.1; rw [cellsE_len] at this; omega
  obtain ⟨g, cap, hv, _, _⟩ := h.form (by omega)
  have hA : A = some ⟨g, 0, none⟩ := by injection hv
  subst hA
  have := h.cells (g := g) rfl (k * 5) _ (by have := cellsE_at hk 0 (by omega); rw [Nat.add_zero] at this; rw [this]; rfl)
  rw [addr_add, Nat.zero_add] at this
  exact ⟨g, rfl, this⟩
theorem Hp.set_l {w : World} {F g cap full : Nat} {r0 r1 : Rst} {rest : List Rst} (h : Hp w F g cap full (r0 :: rest)) (hpl : r1.pl = r0.pl) : Hp (w.setCell ⟨g, 0, none⟩ (.slice r1.A r1.n r1.c)) F g cap full (r1 :: rest) := by
  obtain ⟨cur, hg, ht, hs⟩ := h.hg
  have o1 := (grown_setCell w g 0 (.slice r1.A r1.n r1.c)).block F (lt_cells h.hf) (fun e => h.ne (by injection e))
  refine ⟨o1.trans h.hf, ⟨_, set_cells hg 0 _, ?_, by simp [hs]⟩, h.ne, h.len, h.fit, h.max⟩
  rw [Array.toList_setIfInBounds, List.take_set]
  have hl : (r1 :: rest).length = (r0 :: rest).length := rfl
  rw [hl, ht, cellsR_cons, cellsR_cons]
  simp [Rst.cells, hpl]
set_option maxRecDepth 100000 in
set_option maxHeartbeats 16000000 in
theorem merged_any (A : Option Addr) (n c : Nat) (L : List Rw) (w : World) (hA : Rows2 w w.heap.size A n c L) (hu : ∀ l ∈ L, up l.row) (hk : ∀ e ∈ flat L, e.kn ≤ 1048576) (hn : n ≤ 80000) :
    Calls Try.prog 35 #[.slice A n c] w (MergedAs (srt (flat L)) w) := by
  obtain ⟨i0, hti, hz0, hz1, hz2⟩ := info_parts edit_info
  have HA := hide hA
  have HL := hide hA.len
  have HU := hide hu
  have HKB := hide hk
  obtain ⟨B, hB⟩ : ∃ B, B = w.heap.size := ⟨_, rfl⟩
  have HB := hide hB
  have hmf : ∀ (fn : Fn) (first cap : Array Value) (w : World), (Instr.makeFunc fn first cap).run Try.prog w = .ok (.func fn first cap) w := fun _ _ _ _ => rfl
  have hbd : ∀ W : World, (Instr.build 68 #[]).run Try.prog W = .ok (.agg #[.slice none 0 0]) W := fun _ => by kernel_rfl
  have hbx : ∀ W : World, (Instr.box 68 (.agg #[.slice none 0 0])).run Try.prog W = .ok (.pointer (some ⟨W.heap.size, 0, none⟩)) (W.alloc (.cells #[.slice none 0 0] 68)) := fun _ => rfl
  clear hA hu hk
  go_enter Try.func35, Try.ntmps35
  go_wp2_with fail
  go_wp2_with fail
  go_step3
  go_wp2_with fail
  have HQ0 : Hid (Hq (w.alloc (.cells #[.slice none 0 0] 68)) B B []) := hide ⟨.slice none 0 0, by rw [hB]; exact new_cells w _, World.ownsRow_nil _ _ _ _⟩
  have HB0 := hide (show Below B w (w.alloc (.cells #[.slice none 0 0] 68)) by rw [hB]; exact below_alloc w _)
  have HA := hide (show Rows2 w B A n c L by rw [hB]; exact HA.out)
  rw [← hB]
  generalize w.alloc (.cells #[.slice none 0 0] 68) = w0 at *
  clear hB
  go_loopw [16] (fun i wr => ∃ (j : Nat) (H : List Rst), i = .int .i64 (j : Int) ∧ j ≤ n ∧ H.length ≤ j ∧ Hid (Hq wr B B H) ∧ Hid (heapTo H H.length) ∧ Hid (H.Perm (rsOf (L.take j) 0)) ∧ Hid (Below B w wr)) (fun i _ => n - (intOf i).toNat)
  case atStart => exact ⟨0, [], rfl, Nat.zero_le _, Nat.le_refl _, HQ0, hide (fun k _ h => absurd h (by simp)), hide (by simp [rsOf]), HB0⟩
  case round =>
    obtain ⟨j, H, rfl, hj, hHj, hq, hheap, hperm, hb⟩ := hrel
    by_cases hlt : j < n
    · have hjl : j < L.length := by rw [HL.out]; exact hlt
      have HAW := hide (HA.out.below hb.out)
      obtain ⟨b, o, rfl, hbB, hcell⟩ := HAW.out.cell hjl
      have HROW := hide (HAW.out.ok L[j] (List.getElem_mem hjl))
      have HTK := hide (rsOf_take hjl)
      have hj0 : (0 : Int) ≤ (j : Int) := by omega
      have hj1 : (j : Int) < (n : Int) := by omega
      obtain ⟨l, hl⟩ : ∃ l, l = L[j] := ⟨_, rfl⟩
      rw [← hl] at hcell HROW HTK
      have hln := HROW.out.len
      clear hl
      by_cases hz : l.n = 0
      · have hnil : l.row = [] := List.eq_nil_of_length_eq_zero (by omega)
        rw [if_pos hnil, List.append_nil] at HTK
        rw [hz] at hcell
        clear hln hz
        go_wp2_with fail
        go_roundw
        case rel => exact ⟨j + 1, H, by go_num, by omega, by omega, hq, hheap, hide (by rw [HTK.out]; exact hperm.out), hb⟩
        case measure => simp [intOf]; omega
      · have hne : l.row ≠ [] := by intro h; rw [h] at hln; exact hz hln.symm
        have hpos : (0 : Int) < (l.n : Int) := by omega
        rw [if_neg hne] at HTK
        have HSO := hide (fun s (hs : s ∈ H ++ [⟨l.A, l.n, l.c, l.row, j⟩]) => show s.Ok wr B by
          rcases List.mem_append.1 hs with h | h
          · exact rest_ok HAW.out (hperm.out.mem_iff.1 h)
          · obtain rfl : s = _ := by simpa using h
            exact ⟨HROW.out, hne⟩)
        clear hln hz
        go_wp2_with fail
        refine Calls.mono (push_any B B H ⟨l.A, l.n, l.c, l.row, j⟩ _ hq.out (by omega) HSO.out (Nat.le_refl _)) ?_
        rintro x w2 ⟨⟨v2, rfl⟩, hq2, hb2⟩
        have HQ2 := hide hq2
        have HB2 := hide (hb.out.trans hb2)
        have HPH := hide (push_heap hheap.out ⟨l.A, l.n, l.c, l.row, j⟩)
        clear hq2 hb2
        go_wp2_with fail
        go_roundw
        case rel =>
          refine ⟨j + 1, hUp (H ++ [⟨l.A, l.n, l.c, l.row, j⟩]) H.length, by go_num, by omega, by rw [hUp_len]; simp; omega, HQ2, hide ?_, hide ?_, HB2⟩
          · rw [hUp_len, List.length_append]; exact HPH.out.1
          · rw [HTK.out]; exact HPH.out.2.trans (hperm.out.append_right _)
        case measure => simp [intOf]; omega
    · obtain rfl : j = n := by omega
      have HPM := hide (show H.Perm (rsOf L 0) by have := hperm.out; rwa [List.take_of_length_le (by rw [HL.out]; exact Nat.le_refl _)] at this)
      have HMI := hide (MI.start HU.out hheap.out HPM.out)
      have HSO := hide (fun s (hs : s ∈ H) => show s.Ok wr B from rest_ok (j := j) (HA.out.below hb.out) (hperm.out.mem_iff.1 hs))
      have HKS := hide (fun s (hs : s ∈ H) f (hf : f ∈ s.row) => show f.kn ≤ 1048576 by
        obtain ⟨_, _, _, l, hl, _, _, _, e4⟩ := rsOf_pl (HPM.out.mem_iff.1 hs)
        exact HKB.out f (List.mem_flatMap.2 ⟨l, hl, by rw [← e4]; exact hf⟩))
      clear hheap hperm HPM
      have HH2 := hide hq.out.h2
      clear hq
      go_wp2_with fail
      go_step3
      go_wp2_with fail
      obtain ⟨T, hT⟩ : ∃ T, T = srt (flat L) := ⟨_, rfl⟩
      have HUT := hide (show up T by rw [hT]; exact srt_up _)
      rw [← hT] at HMI
      go_loopg [7] (mu H) (fun k ov wr => ∃ (p : Nat) (H : List Rst), mu H ≤ k ∧ p ≤ 512 ∧ H.length ≤ 90000 ∧ Hid (MI T p H) ∧ Hid (H2 wr B B H) ∧ Hid (∀ s ∈ H, s.Ok wr B) ∧ Hid (wr.ownsRow B 48 5 ov p (cellsE (T.take p))) ∧ Hid (Below B w wr) ∧ Hid (∀ s ∈ H, ∀ f ∈ s.row, f.kn ≤ 1048576))
      case atStart => exact ⟨0, H, Nat.le_refl _, by omega, by omega, HMI, HH2, HSO, hide (World.ownsRow_nil _ _ _ _), hb, HKS⟩
      case round =>
        obtain ⟨p, H, hmu, hp, hlH, hmi, hh2, hso, hout, hb, hks⟩ := hrel
        obtain ⟨A', c', hFc⟩ := hh2.out.1
        have hFcc := one_cell hFc
        cases H with
        | nil =>
          have HD := hide (hmi.out.done HUT.out)
          go_wp2_with fail
          refine Calls.mono (lenc_any B _ c' A' _ hFcc) ?_
          rintro x w2 ⟨rfl, rfl⟩
          go_wp2_with fail
          rw [Exit.noGoto_ret]
          go_ret2
          refine ⟨by rw [← HB.out]; exact hb.out, ?_⟩
          rw [← hT, ← HD.out, if_pos hp]
          refine ⟨_, rfl, ?_⟩
          have ho := hout.out
          rw [HD.out, List.take_length] at ho
          rw [← HB.out, HD.out]
          exact ho
        | cons r0 rest =>
          obtain ⟨g, cap, full, hBg, hp'⟩ := hh2.out.2 (by simp)
          have HP := hide hp'
          obtain ⟨x, t, hrow⟩ : ∃ x t, r0.row = x :: t := by
            have := (hmi.out.ne r0 (by simp)).1
            cases hr : r0.row with
            | nil => exact absurd hr this
            | cons x t => exact ⟨x, t, rfl⟩
          have HROW := hide (hso.out r0 (by simp)).1
          have hfirst := HROW.out
          rw [hrow] at hfirst
          obtain ⟨b, o, hA0, hbB, hn0, c0, c1, c2, c3, c4⟩ := hfirst.first
          obtain ⟨g0, g1⟩ := hp'.cell (k := 0) (by simp)
          simp only [Nat.zero_mul, Nat.zero_add, List.getElem_cons_zero] at g0 g1
          have hFg := hp'.fcell
          obtain ⟨gcur, hgcur, _, hgsz⟩ := hp'.hg
          have hgpos : 0 < gcur.size := by have h1 := hp'.len; have h2 := hp'.fit; simp at h1; omega
          have gf : wr.frozen? ⟨g, 0, none⟩ = false := frozen_of_row _ _ 0 _ _ hgcur
          have gfa : ∀ o1, (wr.alloc o1).frozen? ⟨g, 0, none⟩ = false := fun o1 => frozen_of_row _ _ 0 _ _ (old_cells hgcur o1)
          obtain ⟨g0a, _⟩ := behind g0
          have q1 : ∀ (v : Value) (o1 : Obj), ((wr.setCell ⟨g, 0, none⟩ v).alloc o1).cell? ⟨g, 0, none⟩ = some v := fun v o1 => by
            have h1 := old_cells (set_cells hgcur 0 v) o1
            rw [cell_of_row _ _ 0 _ _ _ h1]
            simp [hgpos]
          have hne := hp'.ne
          have HROWN := hide hrow
          have HN0 := hide hn0
          rw [hA0] at g0 g0a
          obtain ⟨A6, c6, rfl, hc6, hm6, hr6⟩ := own_slice hout.out
          have HR6 := hide hr6
          have hc0 : 0 < r0.c := by have := HROW.out.cap; omega
          rw [hn0] at g0 g0a
          clear hp' hgcur hFc hrow hFcc hgsz hgpos hr6 hc6 hm6
          by_cases ht : t = []
          · have htl : t.length = 0 := by rw [ht]; rfl
            rw [htl] at g0 g0a hn0
            by_cases hc1 : r0.c = 1
            · rw [hc1] at g0 g0a
              go_wp2_with fail
              refine Calls.mono (lenc_any B _ cap (some ⟨g, 0, none⟩) _ hFg) ?_
              rintro e2 w2 ⟨rfl, rfl⟩
              go_wp2_with fail
              obtain ⟨W1, hW1⟩ : ∃ W1, W1 = (w2.alloc (.cells #[.slice x.kA x.kn x.kc, .bool x.put, .slice x.vA x.vn x.vc, .bool x.int, .int .i64 x.n] 48)).setCell ⟨g, 0, none⟩ (.slice (some ⟨b, o, none⟩) 0 0) := ⟨_, rfl⟩
              obtain ⟨r1, hr1e⟩ : ∃ r1 : Rst, r1 = ⟨(some ⟨b, o, none⟩), 0, 0, t, r0.pl⟩ := ⟨_, rfl⟩
              have hr1 : r1.row = r0.row.tail := by rw [hr1e, HROWN.out]; rfl
              have hr2 : r1.pl = r0.pl := by rw [hr1e]
              have HX0 := hide (new_cells w2 (.cells #[.slice x.kA x.kn x.kc, .bool x.put, .slice x.vA x.vn x.vc, .bool x.int, .int .i64 x.n] 48))
              have HPA := hide (HP.out.on (below_alloc w2 (.cells #[.slice x.kA x.kn x.kc, .bool x.put, .slice x.vA x.vn x.vc, .bool x.int, .int .i64 x.n] 48)))
              have hlt2 := HP.out.hg.choose_spec.1
              have hg2 : g < w2.heap.size := lt_cells hlt2
              have HG1 := hide (grown_setCell (w2.alloc (.cells #[.slice x.kA x.kn x.kc, .bool x.put, .slice x.vA x.vn x.vc, .bool x.int, .int .i64 x.n] 48)) g 0 (.slice (some ⟨b, o, none⟩) 0 0))
              have HP1 : Hid (Hp W1 B g cap full (r1 :: rest)) := hide (by rw [hW1]; have := HPA.out.set_l (r1 := r1) hr2; rw [hr1e] at this ⊢; exact this)
              rw [← hW1] at HG1
              have HX1 := hide ((HG1.out.block w2.heap.size (by simp) (fun e => by injection e; omega)).trans HX0.out)
              have hszB : B ≤ w2.heap.size := Nat.le_trans hBg (Nat.le_of_lt hg2)
              have HBW1 := hide (show Below B w2 W1 from ((Below.refl B w2).alloc hszB _).trans (grown_below HG1.out hBg (by simp; omega)))
              have HO1 := hide ((hout.out.alloc (.cells #[.slice x.kA x.kn x.kc, .bool x.put, .slice x.vA x.vn x.vc, .bool x.int, .int .i64 x.n] 48)).kept HG1.out (own_apart (hout.out.alloc _) HPA.out.hg.choose_spec.1 (by decide)))
              have hsz1 : w2.heap.size < W1.heap.size := by have := HG1.out.size; simp at this; omega
              rw [← hW1]
              clear hW1 hlt2 HX0 HPA HG1
              have HPH := hide (pop_heap (H := r1 :: rest) (m := rest.length) (fun k hk hkn hpk => by
                have h1 := hmi.out.heap k hk hkn
                have e : ∀ q, q ≠ 0 → pt (r1 :: rest) q = pt (r0 :: rest) q := fun q hq => by
                  obtain ⟨q, rfl⟩ : ∃ q', q = q' + 1 := ⟨q - 1, by omega⟩
                  rfl
                rw [e _ hpk, e _ (by omega)]
                exact h1) rfl)
              refine Calls.mono (pop_any B g cap full B rest.length (r1 :: rest) _ HP1.out (fun s hs => (hso.out s (by simp at hs; simp [hs])).below HBW1.out) (Nat.le_refl _) hBg (by simp at hlH ⊢; omega) rfl) ?_
              rintro e5 w5 ⟨⟨v5, rfl⟩, hp5, hf5⟩
              obtain ⟨H', hH'⟩ : ∃ H', H' = hPopped (r1 :: rest) rest.length := ⟨_, rfl⟩
              rw [← hH'] at hp5 HPH
              have hheap5 : heapTo H' H'.length := by rw [HPH.out.2.1]; exact HPH.out.1
              have htl0 : tail_ r0 rest r1 = rest := by unfold tail_; rw [HROWN.out, List.tail_cons, if_pos ht]
              have hperm5 : H'.Perm (tail_ r0 rest r1) := by
                rw [htl0]
                exact (List.perm_cons r1).1 ((List.perm_append_singleton r1 H').symm.trans HPH.out.2.2)
              have HH5 := hide (show H2 w5 B B H' from ⟨⟨_, _, by have := hp5.hf; rw [← HPH.out.2.1] at this; exact this⟩, fun _ => ⟨g, rest.length, full, hBg, by have := hp5; exact this⟩⟩)
              have HSO5 := hide (fun s (hs : s ∈ H') => show s.Ok w5 B from (hso.out s (by have := hperm5.mem_iff.1 hs; rw [htl0] at this; simp [this])).below (HBW1.out.trans (hf5.below (Nat.le_refl _) hBg (Nat.le_trans hszB HBW1.out.size))))
              clear hp5 htl0 HPH hH'
              have HST := hide (And.intro hheap5 (And.intro hperm5 (show mu H' + 1 = mu (r0 :: rest) by rw [mu_perm hperm5]; exact mu_tail HROWN.out hr1)))
              have HLH := hide (show H'.length ≤ 90000 by rw [hperm5.length_eq]; unfold tail_; split <;> simp at hlH ⊢ <;> omega)
              have HX5 := hide ((hf5.block w2.heap.size hsz1 (by omega) (by omega)).trans HX1.out)
              have HO5 := hide (own_fr HO1.out HP1.out hf5)
              have HB5x := hide (show Below B w2 w5 from HBW1.out.trans (hf5.below (Nat.le_refl _) hBg (Nat.le_trans hszB HBW1.out.size)))
              have HB5 := hide (hb.out.trans HB5x.out)
              have HXOK := hide (show x.Ok w5 B from (HROW.out.ok x (by rw [HROWN.out]; simp)).below HB5x.out)
              have HTOK := hide (fun e (he : e ∈ T) => show e.Ok w5 B from by
                rw [hT] at he
                obtain ⟨l, hl, hel⟩ := List.mem_flatMap.1 (srt_mem _ he)
                exact (((HA.out.below hb.out).ok l hl).ok e hel).below HB5x.out)
              have HSZ5 := hide (Nat.le_trans hszB HB5x.out.size)
              have HKS5 := hide (fun s (hs : s ∈ H') f (hf : f ∈ s.row) => show f.kn ≤ 1048576 by
                obtain ⟨s', hs', _, hrow'⟩ := tail_old hr1 hr2 (HST.out.2.1.mem_iff.1 hs)
                exact hks.out s' hs' f (hrow' f hf))
              clear HP1 HX1 HO1 HBW1 hsz1 hheap5 hperm5 hf5 hr1e
              clear c0 c1 c2 c3 c4 g0 g1 g0a gf gfa q1 hFg
              by_cases hp0 : p = 0
              · have e0 : ¬ (0 : Int) < (p : Int) := by omega
                have HTP := hide (MI.next HUT.out hmi.out HROWN.out (.inl hp0))
                have HP0 := hide hp0
                clear hp0
                go_wp2_with fail
                refine Dag.wp_region_facts 12 (Dag.list [Dag.Is (.int .i64 (p : Int)), Dag.Is (.bool false), Dag.Is (.bool false), Dag.Is undef, Dag.Is undef, Dag.Is undef, Dag.Is undef, Dag.Is undef, Dag.Is undef, Dag.Is undef, Dag.Is undef, Dag.Is undef]) (by kernel_rfl) (by kernel_rfl) (Dag.stable_list (by simp [Dag.Stable.is])) ?_ ?_
                · intro vs W hbW
                  simp only [Dag.allOps, List.take_succ_cons, List.take_zero, Dag.fill, Act.put, List.setIfInBounds_toArray, List.set_cons_succ, List.set_cons_zero, Dag.deps, Region.binds, Dag.list, Dag.Is, List.getD_cons_zero, List.getD_cons_succ, and_true, forall_const, Nat.reduceAdd, Region.wanted, reduceIte]
                  refine ⟨?_, ?_, ?_, ?_, ?_, ?_, ?_, ?_, ?_, ?_, ?_, ?_⟩
                  · (try intro hd); go_simp; (first | done | exact ⟨Below.refl _ _, rfl⟩ | exact Below.refl _ _ | (intro h; cases h))
                  · (try intro hd); go_simp; first | exact Below.refl _ _ | exact ⟨Below.refl _ _, HP0.out⟩
                  · (try intro hd); go_simp; (first | done | exact ⟨Below.refl _ _, rfl⟩ | exact Below.refl _ _ | (intro h; cases h))
                  · (try intro hd); go_simp; (first | done | exact ⟨Below.refl _ _, rfl⟩ | exact Below.refl _ _ | (intro h; cases h))
                  · (try intro hd); go_simp; (first | done | exact ⟨Below.refl _ _, rfl⟩ | exact Below.refl _ _ | (intro h; cases h))
                  · (try intro hd); go_simp; (first | done | exact ⟨Below.refl _ _, rfl⟩ | exact Below.refl _ _ | (intro h; cases h))
                  · (try intro hd); go_simp; (first | done | exact ⟨Below.refl _ _, rfl⟩ | exact Below.refl _ _ | (intro h; cases h))
                  · (try intro hd); go_simp; (first | done | exact ⟨Below.refl _ _, rfl⟩ | exact Below.refl _ _ | (intro h; cases h))
                  · (try intro hd); go_simp; (first | done | exact ⟨Below.refl _ _, rfl⟩ | exact Below.refl _ _ | (intro h; cases h))
                  · (try intro hd); go_simp; (first | done | exact ⟨Below.refl _ _, rfl⟩ | exact Below.refl _ _ | (intro h; cases h))
                  · (try intro hd); go_simp; (first | done | exact ⟨Below.refl _ _, rfl⟩ | exact Below.refl _ _ | (intro h; cases h))
                  · (try intro hd); go_simp; (first | done | exact ⟨Below.refl _ _, rfl⟩ | exact Below.refl _ _ | (intro h; cases h))
                · intro vs W hbW hk
                  simp only [Dag.known, Dag.list, Dag.Is, List.getD_cons_zero, List.getD_cons_succ, and_true] at hk
                  obtain ⟨k0, k1, k2, k3, k4, k5, k6, k7, k8, k9, k10, k11⟩ := hk
                  simp only [List.take_succ_cons, List.take_zero, List.drop_succ_cons, List.drop_zero, Dag.fill, Act.put, List.setIfInBounds_toArray, List.set_cons_succ, List.set_cons_zero, Nat.reduceAdd, k0, k1, k2, k3, k4, k5, k6, k7, k8, k9, k10, k11]
                  clear k0 k1 k2 k3 k4 k5 k6 k7 k8 k9 k10 k11
                  have hTp := HTP.out
                  have hpl : p < T.length := (List.getElem?_eq_some_iff.1 hTp).1
                  have HB8x := hide (HB5x.out.trans (hbW.mono HSZ5.out))
                  have HB8 := hide (hb.out.trans HB8x.out)
                  have HH8 := hide (HH5.out.on hbW)
                  have HX8 := hide (on_cells HX5.out hbW)
                  have HO8 := hide (own_on HO5.out hbW)
                  have HSO8 := hide (fun s (hs : s ∈ H') => (HSO5.out s hs).below (hbW.mono HSZ5.out))
                  have HSZ8 := hide (Nat.le_trans HSZ5.out hbW.size)
                  by_cases h512 : p = 512
                  · have e512 : ((p : Int) == 512) = true := by rw [h512]; rfl
                    have HGT := hide (show ¬ T.length ≤ 512 by omega)
                    clear hTp hpl h512 hbW
                    go_wp2_with fail
                    rw [Exit.noGoto_ret]
                    go_ret2
                    refine ⟨by rw [← HB.out]; exact HB8.out, ?_⟩
                    rw [← hT, if_neg HGT.out]
                    rfl
                  · have e512 : ((p : Int) == 512) = false := by rw [beq_eq_false_iff_ne]; omega
                    have HT1 := hide (show T.take (p + 1) = T.take p ++ [x] by rw [List.take_succ_eq_append_getElem hpl]; congr 2; have := List.getElem?_eq_getElem hpl; rw [hTp] at this; exact (Option.some.inj this).symm)
                    have HM1 := hide (MI.take HUT.out hmi.out HROWN.out hr1 hr2 HST.out.1 HST.out.2.1 hTp)
                    obtain ⟨x0, x1, x2, x3, x4⟩ := five_cells HX8.out
                    have hsz8 := HSZ8.out
                    clear hTp hpl hbW
                    go_wp2_with (at_builtin; go_loud (refine wpList_append_reads rfl (.tmp 89) (.tmp 91) _ rfl B 48 i0 _ 5 72 Try.underlying22 hti hz0 hz1 hz2 rfl (by omega) (.slice A6 p c6) p (cellsE (T.take p)) rfl (HO8.out.alloc _) (W.heap.size + 1) (some ⟨W.heap.size, 0, none⟩) 1 1 (cellsE [x]) rfl (Reads.new W 48 _ #[.slice x.kA x.kn x.kc, .bool x.put, .slice x.vA x.vn x.vc, .bool x.int, .int .i64 x.n] 1 5 (cellsE [x]) rfl (fun j u hu => by simpa [cellsE, Ed.cells] using hu)) cellsE_one (by unfold maxLen; omega) (by omega) (by simp; omega) ?_); intro v9 w9 hown9 hg9 hat9)
                    have HB9x := hide (((Below.refl B W).alloc hsz8 (.cells #[.slice x.kA x.kn x.kc, .bool x.put, .slice x.vA x.vn x.vc, .bool x.int, .int .i64 x.n] 48)).grown hg9 (by simp; omega) fun q hq => (HO8.out.lt q hq).1)
                    go_roundg (gk - 1)
                    case rel => exact ⟨p + 1, H', by have := HST.out.2.2; omega, by omega, HLH.out, HM1, hide ((HH8.out.on (below_alloc _ _)).kept hg9 (HO8.out.alloc _)), hide (fun s hs => (HSO8.out s hs).below HB9x.out), hide (by rw [HT1.out, cellsE_append]; exact hown9), hide (HB8.out.trans HB9x.out), HKS5⟩
                    case measure => have := HST.out.2.2; omega
              · obtain ⟨q, hq⟩ : ∃ q, p = q + 1 := ⟨p - 1, by omega⟩
                have hpT : p - 1 < T.length := by have := hmi.out.le; omega
                obtain ⟨e, he⟩ : ∃ e, e = T[p - 1] := ⟨_, rfl⟩
                have HE := hide (show T[p - 1]? = some e by rw [he]; exact List.getElem?_eq_getElem hpT)
                have HEOK := hide (HTOK.out e (by rw [he]; exact List.getElem_mem hpT))
                obtain ⟨ob, rfl, hok⟩ := own_key HO5.out (k := q) (by rw [List.length_take]; omega)
                have HKC := hide (show w5.cell? ⟨ob, q * 5, none⟩ = some (.slice e.kA e.kn e.kc) by
                  rw [hok]
                  have : (T.take p)[q]'(by rw [List.length_take]; omega) = e := by rw [List.getElem_take, he]; congr 1; omega
                  rw [this])
                have HKN := hide (show e.kn ≤ 1048576 ∧ x.kn ≤ 1048576 from ⟨HKB.out e (srt_mem _ (by rw [← hT, he]; exact List.getElem_mem hpT)), hks.out r0 (by simp) x (by rw [HROWN.out]; simp)⟩)
                have e0 : (0 : Int) < (p : Int) := by omega
                have e1 : (p : Int) - 1 = (q : Int) := by omega
                have hqp : (q : Int) < (p : Int) := by omega
                have hq0 : (0 : Int) ≤ (q : Int) := by omega
                have HWP := hide (wrap_in (p := q) (n := p) (by omega) (by unfold maxLen; omega))
                have hpp : 0 < p := by omega
                have HQQ := hide hq
                clear hok he hpT hp0 hq
                go_wp2_with fail
                refine Dag.wp_region_facts 12 (Dag.list [Dag.Is (.int .i64 (p : Int)), Dag.Is (.bool true), Dag.Is (.bool true), Dag.Is (.slice (some ⟨ob, 0, none⟩) p c6), Dag.Is (.int .i64 (p : Int)), Dag.Is (.int .i64 (q : Int)), Dag.Is (.pointer (some ⟨ob, q * 5, none⟩)), Dag.Is (.pointer (some ⟨ob, q * 5, none⟩)), Dag.Is (.slice e.kA e.kn e.kc), Dag.Is (.pointer (some ⟨w2.heap.size, 0, none⟩)), Dag.Is (.slice x.kA x.kn x.kc), Dag.Is (.bool (decide (e.key = x.key)))]) (by kernel_rfl) (by kernel_rfl) (Dag.stable_list (by simp [Dag.Stable.is])) ?_ ?_
                · intro vs W hbW
                  simp only [Dag.allOps, List.take_succ_cons, List.take_zero, Dag.fill, Act.put, List.setIfInBounds_toArray, List.set_cons_succ, List.set_cons_zero, Dag.deps, Region.binds, Dag.list, Dag.Is, List.getD_cons_zero, List.getD_cons_succ, and_true, forall_const, Nat.reduceAdd, Region.wanted, reduceIte]
                  refine ⟨?_, ?_, ?_, ?_, ?_, ?_, ?_, ?_, ?_, ?_, ?_, ?_⟩
                  · (try intro hd); go_simp; (first | done | exact ⟨Below.refl _ _, rfl⟩ | exact Below.refl _ _ | (intro h; cases h))
                  · (try intro hd); go_simp; (first | done | exact ⟨Below.refl _ _, rfl⟩ | exact Below.refl _ _ | (intro h; cases h))
                  · (try intro hd); go_simp; (first | done | exact ⟨Below.refl _ _, rfl⟩ | exact Below.refl _ _ | (intro h; cases h))
                  · (try intro hd); go_simp; (first | done | exact ⟨Below.refl _ _, rfl⟩ | exact Below.refl _ _ | (intro h; cases h))
                  · (try intro hd); go_simp; (first | done | exact ⟨Below.refl _ _, rfl⟩ | exact Below.refl _ _ | (intro h; cases h))
                  · (try intro hd); go_simp; exact ⟨Below.refl _ _, HWP.out⟩
                  · (try intro hd); go_simp; (first | done | exact ⟨Below.refl _ _, rfl⟩ | exact Below.refl _ _ | (intro h; cases h))
                  · (try intro hd); go_simp; (first | done | exact ⟨Below.refl _ _, rfl⟩ | exact Below.refl _ _ | (intro h; cases h))
                  · (try intro hd); have z := keep_cell hbW HKC.out; go_simp; (first | done | exact ⟨Below.refl _ _, rfl⟩ | exact Below.refl _ _)
                  · (try intro hd); go_simp; (first | done | exact ⟨Below.refl _ _, rfl⟩ | exact Below.refl _ _ | (intro h; cases h))
                  · (try intro hd); obtain ⟨z0, z1, z2, z3, z4⟩ := five_cells (on_cells HX5.out hbW); go_simp; (first | done | exact ⟨Below.refl _ _, rfl⟩ | exact Below.refl _ _)
                  · (try intro hd); go_simp; refine (equal_b e.kA x.kA e.kn x.kn e.kc x.kc e.key x.key _ ((HEOK.out.rb HSZ5.out).on hbW) ((HXOK.out.rb HSZ5.out).on hbW) HKN.out.1 HKN.out.2).mono ?_; rintro x w' ⟨rfl, hb'⟩; exact ⟨rfl, hb'⟩
                · intro vs W hbW hk
                  simp only [Dag.known, Dag.list, Dag.Is, List.getD_cons_zero, List.getD_cons_succ, and_true] at hk
                  obtain ⟨k0, k1, k2, k3, k4, k5, k6, k7, k8, k9, k10, k11⟩ := hk
                  simp only [List.take_succ_cons, List.take_zero, List.drop_succ_cons, List.drop_zero, Dag.fill, Act.put, List.setIfInBounds_toArray, List.set_cons_succ, List.set_cons_zero, Nat.reduceAdd, k0, k1, k2, k3, k4, k5, k6, k7, k8, k9, k10, k11]
                  clear k0 k1 k2 k3 k4 k5 k6 k7 k8 k9 k10 k11
                  by_cases hkey : e.key = x.key
                  · have hd : decide (e.key = x.key) = true := decide_eq_true hkey
                    have HM1 := hide (MI.skip hmi.out HROWN.out hr1 hr2 HST.out.1 HST.out.2.1 ⟨e, HE.out, hkey⟩ hpp)
                    rw [hd]
                    clear hkey hd
                    go_wp2_with fail
                    go_roundg (gk - 1)
                    case rel => exact ⟨p, H', by have := HST.out.2.2; omega, hp, HLH.out, HM1, hide (HH5.out.on hbW), hide (fun s hs => (HSO5.out s hs).below (hbW.mono HSZ5.out)), hide (own_on HO5.out hbW), hide (HB5.out.trans (hbW.mono HSZ5.out)), HKS5⟩
                    case measure => have := HST.out.2.2; omega
                  · have hd : decide (e.key = x.key) = false := decide_eq_false hkey
                    have HTP := hide (MI.next HUT.out hmi.out HROWN.out (.inr ⟨e, HE.out, hkey⟩))
                    rw [hd]
                    clear hkey hd
                    have hTp := HTP.out
                    have hpl : p < T.length := (List.getElem?_eq_some_iff.1 hTp).1
                    have HB8x := hide (HB5x.out.trans (hbW.mono HSZ5.out))
                    have HB8 := hide (hb.out.trans HB8x.out)
                    have HH8 := hide (HH5.out.on hbW)
                    have HX8 := hide (on_cells HX5.out hbW)
                    have HO8 := hide (own_on HO5.out hbW)
                    have HSO8 := hide (fun s (hs : s ∈ H') => (HSO5.out s hs).below (hbW.mono HSZ5.out))
                    have HSZ8 := hide (Nat.le_trans HSZ5.out hbW.size)
                    by_cases h512 : p = 512
                    · have e512 : ((p : Int) == 512) = true := by rw [h512]; rfl
                      have HGT := hide (show ¬ T.length ≤ 512 by omega)
                      clear hTp hpl h512 hbW
                      go_wp2_with fail
                      rw [Exit.noGoto_ret]
                      go_ret2
                      refine ⟨by rw [← HB.out]; exact HB8.out, ?_⟩
                      rw [← hT, if_neg HGT.out]
                      rfl
                    · have e512 : ((p : Int) == 512) = false := by rw [beq_eq_false_iff_ne]; omega
                      have HT1 := hide (show T.take (p + 1) = T.take p ++ [x] by rw [List.take_succ_eq_append_getElem hpl]; congr 2; have := List.getElem?_eq_getElem hpl; rw [hTp] at this; exact (Option.some.inj this).symm)
                      have HM1 := hide (MI.take HUT.out hmi.out HROWN.out hr1 hr2 HST.out.1 HST.out.2.1 hTp)
                      obtain ⟨x0, x1, x2, x3, x4⟩ := five_cells HX8.out
                      have hsz8 := HSZ8.out
                      clear hTp hpl hbW
                      go_wp2_with (at_builtin; go_loud (refine wpList_append_reads rfl (.tmp 89) (.tmp 91) _ rfl B 48 i0 _ 5 72 Try.underlying22 hti hz0 hz1 hz2 rfl (by omega) (.slice (some ⟨ob, 0, none⟩) p c6) p (cellsE (T.take p)) rfl (HO8.out.alloc _) (W.heap.size + 1) (some ⟨W.heap.size, 0, none⟩) 1 1 (cellsE [x]) rfl (Reads.new W 48 _ #[.slice x.kA x.kn x.kc, .bool x.put, .slice x.vA x.vn x.vc, .bool x.int, .int .i64 x.n] 1 5 (cellsE [x]) rfl (fun j u hu => by simpa [cellsE, Ed.cells] using hu)) cellsE_one (by unfold maxLen; omega) (by omega) (by simp; omega) ?_); intro v9 w9 hown9 hg9 hat9)
                      have HB9x := hide (((Below.refl B W).alloc hsz8 (.cells #[.slice x.kA x.kn x.kc, .bool x.put, .slice x.vA x.vn x.vc, .bool x.int, .int .i64 x.n] 48)).grown hg9 (by simp; omega) fun q hq => (HO8.out.lt q hq).1)
                      go_roundg (gk - 1)
                      case rel => exact ⟨p + 1, H', by have := HST.out.2.2; omega, by omega, HLH.out, HM1, hide ((HH8.out.on (below_alloc _ _)).kept hg9 (HO8.out.alloc _)), hide (fun s hs => (HSO8.out s hs).below HB9x.out), hide (by rw [HT1.out, cellsE_append]; exact hown9), hide (HB8.out.trans HB9x.out), HKS5⟩
                      case measure => have := HST.out.2.2; omega
            · have hc2 : (1 : Int) < (r0.c : Int) := by omega
              go_wp2_with fail
              refine Calls.mono (lenc_any B _ cap (some ⟨g, 0, none⟩) _ hFg) ?_
              rintro e2 w2 ⟨rfl, rfl⟩
              go_wp2_with fail
              obtain ⟨W1, hW1⟩ : ∃ W1, W1 = (w2.alloc (.cells #[.slice x.kA x.kn x.kc, .bool x.put, .slice x.vA x.vn x.vc, .bool x.int, .int .i64 x.n] 48)).setCell ⟨g, 0, none⟩ (.slice (some ⟨b, o + 5, none⟩) 0 (r0.c - 1)) := ⟨_, rfl⟩
              obtain ⟨r1, hr1e⟩ : ∃ r1 : Rst, r1 = ⟨(some ⟨b, o + 5, none⟩), 0, (r0.c - 1), t, r0.pl⟩ := ⟨_, rfl⟩
              have hr1 : r1.row = r0.row.tail := by rw [hr1e, HROWN.out]; rfl
              have hr2 : r1.pl = r0.pl := by rw [hr1e]
              have HX0 := hide (new_cells w2 (.cells #[.slice x.kA x.kn x.kc, .bool x.put, .slice x.vA x.vn x.vc, .bool x.int, .int .i64 x.n] 48))
              have HPA := hide (HP.out.on (below_alloc w2 (.cells #[.slice x.kA x.kn x.kc, .bool x.put, .slice x.vA x.vn x.vc, .bool x.int, .int .i64 x.n] 48)))
              have hlt2 := HP.out.hg.choose_spec.1
              have hg2 : g < w2.heap.size := lt_cells hlt2
              have HG1 := hide (grown_setCell (w2.alloc (.cells #[.slice x.kA x.kn x.kc, .bool x.put, .slice x.vA x.vn x.vc, .bool x.int, .int .i64 x.n] 48)) g 0 (.slice (some ⟨b, o + 5, none⟩) 0 (r0.c - 1)))
              have HP1 : Hid (Hp W1 B g cap full (r1 :: rest)) := hide (by rw [hW1]; have := HPA.out.set_l (r1 := r1) hr2; rw [hr1e] at this ⊢; exact this)
              rw [← hW1] at HG1
              have HX1 := hide ((HG1.out.block w2.heap.size (by simp) (fun e => by injection e; omega)).trans HX0.out)
              have hszB : B ≤ w2.heap.size := Nat.le_trans hBg (Nat.le_of_lt hg2)
              have HBW1 := hide (show Below B w2 W1 from ((Below.refl B w2).alloc hszB _).trans (grown_below HG1.out hBg (by simp; omega)))
              have HO1 := hide ((hout.out.alloc (.cells #[.slice x.kA x.kn x.kc, .bool x.put, .slice x.vA x.vn x.vc, .bool x.int, .int .i64 x.n] 48)).kept HG1.out (own_apart (hout.out.alloc _) HPA.out.hg.choose_spec.1 (by decide)))
              have hsz1 : w2.heap.size < W1.heap.size := by have := HG1.out.size; simp at this; omega
              rw [← hW1]
              clear hW1 hlt2 HX0 HPA HG1
              have HPH := hide (pop_heap (H := r1 :: rest) (m := rest.length) (fun k hk hkn hpk => by
                have h1 := hmi.out.heap k hk hkn
                have e : ∀ q, q ≠ 0 → pt (r1 :: rest) q = pt (r0 :: rest) q := fun q hq => by
                  obtain ⟨q, rfl⟩ : ∃ q', q = q' + 1 := ⟨q - 1, by omega⟩
                  rfl
                rw [e _ hpk, e _ (by omega)]
                exact h1) rfl)
              refine Calls.mono (pop_any B g cap full B rest.length (r1 :: rest) _ HP1.out (fun s hs => (hso.out s (by simp at hs; simp [hs])).below HBW1.out) (Nat.le_refl _) hBg (by simp at hlH ⊢; omega) rfl) ?_
              rintro e5 w5 ⟨⟨v5, rfl⟩, hp5, hf5⟩
              obtain ⟨H', hH'⟩ : ∃ H', H' = hPopped (r1 :: rest) rest.length := ⟨_, rfl⟩
              rw [← hH'] at hp5 HPH
              have hheap5 : heapTo H' H'.length := by rw [HPH.out.2.1]; exact HPH.out.1
              have htl0 : tail_ r0 rest r1 = rest := by unfold tail_; rw [HROWN.out, List.tail_cons, if_pos ht]
              have hperm5 : H'.Perm (tail_ r0 rest r1) := by
                rw [htl0]
                exact (List.perm_cons r1).1 ((List.perm_append_singleton r1 H').symm.trans HPH.out.2.2)
              have HH5 := hide (show H2 w5 B B H' from ⟨⟨_, _, by have := hp5.hf; rw [← HPH.out.2.1] at this; exact this⟩, fun _ => ⟨g, rest.length, full, hBg, by have := hp5; exact this⟩⟩)
              have HSO5 := hide (fun s (hs : s ∈ H') => show s.Ok w5 B from (hso.out s (by have := hperm5.mem_iff.1 hs; rw [htl0] at this; simp [this])).below (HBW1.out.trans (hf5.below (Nat.le_refl _) hBg (Nat.le_trans hszB HBW1.out.size))))
              clear hp5 htl0 HPH hH'
              have HST := hide (And.intro hheap5 (And.intro hperm5 (show mu H' + 1 = mu (r0 :: rest) by rw [mu_perm hperm5]; exact mu_tail HROWN.out hr1)))
              have HLH := hide (show H'.length ≤ 90000 by rw [hperm5.length_eq]; unfold tail_; split <;> simp at hlH ⊢ <;> omega)
              have HX5 := hide ((hf5.block w2.heap.size hsz1 (by omega) (by omega)).trans HX1.out)
              have HO5 := hide (own_fr HO1.out HP1.out hf5)
              have HB5x := hide (show Below B w2 w5 from HBW1.out.trans (hf5.below (Nat.le_refl _) hBg (Nat.le_trans hszB HBW1.out.size)))
              have HB5 := hide (hb.out.trans HB5x.out)
              have HXOK := hide (show x.Ok w5 B from (HROW.out.ok x (by rw [HROWN.out]; simp)).below HB5x.out)
              have HTOK := hide (fun e (he : e ∈ T) => show e.Ok w5 B from by
                rw [hT] at he
                obtain ⟨l, hl, hel⟩ := List.mem_flatMap.1 (srt_mem _ he)
                exact (((HA.out.below hb.out).ok l hl).ok e hel).below HB5x.out)
              have HSZ5 := hide (Nat.le_trans hszB HB5x.out.size)
              have HKS5 := hide (fun s (hs : s ∈ H') f (hf : f ∈ s.row) => show f.kn ≤ 1048576 by
                obtain ⟨s', hs', _, hrow'⟩ := tail_old hr1 hr2 (HST.out.2.1.mem_iff.1 hs)
                exact hks.out s' hs' f (hrow' f hf))
              clear HP1 HX1 HO1 HBW1 hsz1 hheap5 hperm5 hf5 hr1e
              clear c0 c1 c2 c3 c4 g0 g1 g0a gf gfa q1 hFg
              by_cases hp0 : p = 0
              · have e0 : ¬ (0 : Int) < (p : Int) := by omega
                have HTP := hide (MI.next HUT.out hmi.out HROWN.out (.inl hp0))
                have HP0 := hide hp0
                clear hp0
                go_wp2_with fail
                refine Dag.wp_region_facts 12 (Dag.list [Dag.Is (.int .i64 (p : Int)), Dag.Is (.bool false), Dag.Is (.bool false), Dag.Is undef, Dag.Is undef, Dag.Is undef, Dag.Is undef, Dag.Is undef, Dag.Is undef, Dag.Is undef, Dag.Is undef, Dag.Is undef]) (by kernel_rfl) (by kernel_rfl) (Dag.stable_list (by simp [Dag.Stable.is])) ?_ ?_
                · intro vs W hbW
                  simp only [Dag.allOps, List.take_succ_cons, List.take_zero, Dag.fill, Act.put, List.setIfInBounds_toArray, List.set_cons_succ, List.set_cons_zero, Dag.deps, Region.binds, Dag.list, Dag.Is, List.getD_cons_zero, List.getD_cons_succ, and_true, forall_const, Nat.reduceAdd, Region.wanted, reduceIte]
                  refine ⟨?_, ?_, ?_, ?_, ?_, ?_, ?_, ?_, ?_, ?_, ?_, ?_⟩
                  · (try intro hd); go_simp; (first | done | exact ⟨Below.refl _ _, rfl⟩ | exact Below.refl _ _ | (intro h; cases h))
                  · (try intro hd); go_simp; first | exact Below.refl _ _ | exact ⟨Below.refl _ _, HP0.out⟩
                  · (try intro hd); go_simp; (first | done | exact ⟨Below.refl _ _, rfl⟩ | exact Below.refl _ _ | (intro h; cases h))
                  · (try intro hd); go_simp; (first | done | exact ⟨Below.refl _ _, rfl⟩ | exact Below.refl _ _ | (intro h; cases h))
                  · (try intro hd); go_simp; (first | done | exact ⟨Below.refl _ _, rfl⟩ | exact Below.refl _ _ | (intro h; cases h))
                  · (try intro hd); go_simp; (first | done | exact ⟨Below.refl _ _, rfl⟩ | exact Below.refl _ _ | (intro h; cases h))
                  · (try intro hd); go_simp; (first | done | exact ⟨Below.refl _ _, rfl⟩ | exact Below.refl _ _ | (intro h; cases h))
                  · (try intro hd); go_simp; (first | done | exact ⟨Below.refl _ _, rfl⟩ | exact Below.refl _ _ | (intro h; cases h))
                  · (try intro hd); go_simp; (first | done | exact ⟨Below.refl _ _, rfl⟩ | exact Below.refl _ _ | (intro h; cases h))
                  · (try intro hd); go_simp; (first | done | exact ⟨Below.refl _ _, rfl⟩ | exact Below.refl _ _ | (intro h; cases h))
                  · (try intro hd); go_simp; (first | done | exact ⟨Below.refl _ _, rfl⟩ | exact Below.refl _ _ | (intro h; cases h))
                  · (try intro hd); go_simp; (first | done | exact ⟨Below.refl _ _, rfl⟩ | exact Below.refl _ _ | (intro h; cases h))
                · intro vs W hbW hk
                  simp only [Dag.known, Dag.list, Dag.Is, List.getD_cons_zero, List.getD_cons_succ, and_true] at hk
                  obtain ⟨k0, k1, k2, k3, k4, k5, k6, k7, k8, k9, k10, k11⟩ := hk
                  simp only [List.take_succ_cons, List.take_zero, List.drop_succ_cons, List.drop_zero, Dag.fill, Act.put, List.setIfInBounds_toArray, List.set_cons_succ, List.set_cons_zero, Nat.reduceAdd, k0, k1, k2, k3, k4, k5, k6, k7, k8, k9, k10, k11]
                  clear k0 k1 k2 k3 k4 k5 k6 k7 k8 k9 k10 k11
                  have hTp := HTP.out
                  have hpl : p < T.length := (List.getElem?_eq_some_iff.1 hTp).1
                  have HB8x := hide (HB5x.out.trans (hbW.mono HSZ5.out))
                  have HB8 := hide (hb.out.trans HB8x.out)
                  have HH8 := hide (HH5.out.on hbW)
                  have HX8 := hide (on_cells HX5.out hbW)
                  have HO8 := hide (own_on HO5.out hbW)
                  have HSO8 := hide (fun s (hs : s ∈ H') => (HSO5.out s hs).below (hbW.mono HSZ5.out))
                  have HSZ8 := hide (Nat.le_trans HSZ5.out hbW.size)
                  by_cases h512 : p = 512
                  · have e512 : ((p : Int) == 512) = true := by rw [h512]; rfl
                    have HGT := hide (show ¬ T.length ≤ 512 by omega)
                    clear hTp hpl h512 hbW
                    go_wp2_with fail
                    rw [Exit.noGoto_ret]
                    go_ret2
                    refine ⟨by rw [← HB.out]; exact HB8.out, ?_⟩
                    rw [← hT, if_neg HGT.out]
                    rfl
                  · have e512 : ((p : Int) == 512) = false := by rw [beq_eq_false_iff_ne]; omega
                    have HT1 := hide (show T.take (p + 1) = T.take p ++ [x] by rw [List.take_succ_eq_append_getElem hpl]; congr 2; have := List.getElem?_eq_getElem hpl; rw [hTp] at this; exact (Option.some.inj this).symm)
                    have HM1 := hide (MI.take HUT.out hmi.out HROWN.out hr1 hr2 HST.out.1 HST.out.2.1 hTp)
                    obtain ⟨x0, x1, x2, x3, x4⟩ := five_cells HX8.out
                    have hsz8 := HSZ8.out
                    clear hTp hpl hbW
                    go_wp2_with (at_builtin; go_loud (refine wpList_append_reads rfl (.tmp 89) (.tmp 91) _ rfl B 48 i0 _ 5 72 Try.underlying22 hti hz0 hz1 hz2 rfl (by omega) (.slice A6 p c6) p (cellsE (T.take p)) rfl (HO8.out.alloc _) (W.heap.size + 1) (some ⟨W.heap.size, 0, none⟩) 1 1 (cellsE [x]) rfl (Reads.new W 48 _ #[.slice x.kA x.kn x.kc, .bool x.put, .slice x.vA x.vn x.vc, .bool x.int, .int .i64 x.n] 1 5 (cellsE [x]) rfl (fun j u hu => by simpa [cellsE, Ed.cells] using hu)) cellsE_one (by unfold maxLen; omega) (by omega) (by simp; omega) ?_); intro v9 w9 hown9 hg9 hat9)
                    have HB9x := hide (((Below.refl B W).alloc hsz8 (.cells #[.slice x.kA x.kn x.kc, .bool x.put, .slice x.vA x.vn x.vc, .bool x.int, .int .i64 x.n] 48)).grown hg9 (by simp; omega) fun q hq => (HO8.out.lt q hq).1)
                    go_roundg (gk - 1)
                    case rel => exact ⟨p + 1, H', by have := HST.out.2.2; omega, by omega, HLH.out, HM1, hide ((HH8.out.on (below_alloc _ _)).kept hg9 (HO8.out.alloc _)), hide (fun s hs => (HSO8.out s hs).below HB9x.out), hide (by rw [HT1.out, cellsE_append]; exact hown9), hide (HB8.out.trans HB9x.out), HKS5⟩
                    case measure => have := HST.out.2.2; omega
              · obtain ⟨q, hq⟩ : ∃ q, p = q + 1 := ⟨p - 1, by omega⟩
                have hpT : p - 1 < T.length := by have := hmi.out.le; omega
                obtain ⟨e, he⟩ : ∃ e, e = T[p - 1] := ⟨_, rfl⟩
                have HE := hide (show T[p - 1]? = some e by rw [he]; exact List.getElem?_eq_getElem hpT)
                have HEOK := hide (HTOK.out e (by rw [he]; exact List.getElem_mem hpT))
                obtain ⟨ob, rfl, hok⟩ := own_key HO5.out (k := q) (by rw [List.length_take]; omega)
                have HKC := hide (show w5.cell? ⟨ob, q * 5, none⟩ = some (.slice e.kA e.kn e.kc) by
                  rw [hok]
                  have : (T.take p)[q]'(by rw [List.length_take]; omega) = e := by rw [List.getElem_take, he]; congr 1; omega
                  rw [this])
                have HKN := hide (show e.kn ≤ 1048576 ∧ x.kn ≤ 1048576 from ⟨HKB.out e (srt_mem _ (by rw [← hT, he]; exact List.getElem_mem hpT)), hks.out r0 (by simp) x (by rw [HROWN.out]; simp)⟩)
                have e0 : (0 : Int) < (p : Int) := by omega
                have e1 : (p : Int) - 1 = (q : Int) := by omega
                have hqp : (q : Int) < (p : Int) := by omega
                have hq0 : (0 : Int) ≤ (q : Int) := by omega
                have HWP := hide (wrap_in (p := q) (n := p) (by omega) (by unfold maxLen; omega))
                have hpp : 0 < p := by omega
                have HQQ := hide hq
                clear hok he hpT hp0 hq
                go_wp2_with fail
                refine Dag.wp_region_facts 12 (Dag.list [Dag.Is (.int .i64 (p : Int)), Dag.Is (.bool true), Dag.Is (.bool true), Dag.Is (.slice (some ⟨ob, 0, none⟩) p c6), Dag.Is (.int .i64 (p : Int)), Dag.Is (.int .i64 (q : Int)), Dag.Is (.pointer (some ⟨ob, q * 5, none⟩)), Dag.Is (.pointer (some ⟨ob, q * 5, none⟩)), Dag.Is (.slice e.kA e.kn e.kc), Dag.Is (.pointer (some ⟨w2.heap.size, 0, none⟩)), Dag.Is (.slice x.kA x.kn x.kc), Dag.Is (.bool (decide (e.key = x.key)))]) (by kernel_rfl) (by kernel_rfl) (Dag.stable_list (by simp [Dag.Stable.is])) ?_ ?_
                · intro vs W hbW
                  simp only [Dag.allOps, List.take_succ_cons, List.take_zero, Dag.fill, Act.put, List.setIfInBounds_toArray, List.set_cons_succ, List.set_cons_zero, Dag.deps, Region.binds, Dag.list, Dag.Is, List.getD_cons_zero, List.getD_cons_succ, and_true, forall_const, Nat.reduceAdd, Region.wanted, reduceIte]
                  refine ⟨?_, ?_, ?_, ?_, ?_, ?_, ?_, ?_, ?_, ?_, ?_, ?_⟩
                  · (try intro hd); go_simp; (first | done | exact ⟨Below.refl _ _, rfl⟩ | exact Below.refl _ _ | (intro h; cases h))
                  · (try intro hd); go_simp; (first | done | exact ⟨Below.refl _ _, rfl⟩ | exact Below.refl _ _ | (intro h; cases h))
                  · (try intro hd); go_simp; (first | done | exact ⟨Below.refl _ _, rfl⟩ | exact Below.refl _ _ | (intro h; cases h))
                  · (try intro hd); go_simp; (first | done | exact ⟨Below.refl _ _, rfl⟩ | exact Below.refl _ _ | (intro h; cases h))
                  · (try intro hd); go_simp; (first | done | exact ⟨Below.refl _ _, rfl⟩ | exact Below.refl _ _ | (intro h; cases h))
                  · (try intro hd); go_simp; exact ⟨Below.refl _ _, HWP.out⟩
                  · (try intro hd); go_simp; (first | done | exact ⟨Below.refl _ _, rfl⟩ | exact Below.refl _ _ | (intro h; cases h))
                  · (try intro hd); go_simp; (first | done | exact ⟨Below.refl _ _, rfl⟩ | exact Below.refl _ _ | (intro h; cases h))
                  · (try intro hd); have z := keep_cell hbW HKC.out; go_simp; (first | done | exact ⟨Below.refl _ _, rfl⟩ | exact Below.refl _ _)
                  · (try intro hd); go_simp; (first | done | exact ⟨Below.refl _ _, rfl⟩ | exact Below.refl _ _ | (intro h; cases h))
                  · (try intro hd); obtain ⟨z0, z1, z2, z3, z4⟩ := five_cells (on_cells HX5.out hbW); go_simp; (first | done | exact ⟨Below.refl _ _, rfl⟩ | exact Below.refl _ _)
                  · (try intro hd); go_simp; refine (equal_b e.kA x.kA e.kn x.kn e.kc x.kc e.key x.key _ ((HEOK.out.rb HSZ5.out).on hbW) ((HXOK.out.rb HSZ5.out).on hbW) HKN.out.1 HKN.out.2).mono ?_; rintro x w' ⟨rfl, hb'⟩; exact ⟨rfl, hb'⟩
                · intro vs W hbW hk
                  simp only [Dag.known, Dag.list, Dag.Is, List.getD_cons_zero, List.getD_cons_succ, and_true] at hk
                  obtain ⟨k0, k1, k2, k3, k4, k5, k6, k7, k8, k9, k10, k11⟩ := hk
                  simp only [List.take_succ_cons, List.take_zero, List.drop_succ_cons, List.drop_zero, Dag.fill, Act.put, List.setIfInBounds_toArray, List.set_cons_succ, List.set_cons_zero, Nat.reduceAdd, k0, k1, k2, k3, k4, k5, k6, k7, k8, k9, k10, k11]
                  clear k0 k1 k2 k3 k4 k5 k6 k7 k8 k9 k10 k11
                  by_cases hkey : e.key = x.key
                  · have hd : decide (e.key = x.key) = true := decide_eq_true hkey
                    have HM1 := hide (MI.skip hmi.out HROWN.out hr1 hr2 HST.out.1 HST.out.2.1 ⟨e, HE.out, hkey⟩ hpp)
                    rw [hd]
                    clear hkey hd
                    go_wp2_with fail
                    go_roundg (gk - 1)
                    case rel => exact ⟨p, H', by have := HST.out.2.2; omega, hp, HLH.out, HM1, hide (HH5.out.on hbW), hide (fun s hs => (HSO5.out s hs).below (hbW.mono HSZ5.out)), hide (own_on HO5.out hbW), hide (HB5.out.trans (hbW.mono HSZ5.out)), HKS5⟩
                    case measure => have := HST.out.2.2; omega
                  · have hd : decide (e.key = x.key) = false := decide_eq_false hkey
                    have HTP := hide (MI.next HUT.out hmi.out HROWN.out (.inr ⟨e, HE.out, hkey⟩))
                    rw [hd]
                    clear hkey hd
                    have hTp := HTP.out
                    have hpl : p < T.length := (List.getElem?_eq_some_iff.1 hTp).1
                    have HB8x := hide (HB5x.out.trans (hbW.mono HSZ5.out))
                    have HB8 := hide (hb.out.trans HB8x.out)
                    have HH8 := hide (HH5.out.on hbW)
                    have HX8 := hide (on_cells HX5.out hbW)
                    have HO8 := hide (own_on HO5.out hbW)
                    have HSO8 := hide (fun s (hs : s ∈ H') => (HSO5.out s hs).below (hbW.mono HSZ5.out))
                    have HSZ8 := hide (Nat.le_trans HSZ5.out hbW.size)
                    by_cases h512 : p = 512
                    · have e512 : ((p : Int) == 512) = true := by rw [h512]; rfl
                      have HGT := hide (show ¬ T.length ≤ 512 by omega)
                      clear hTp hpl h512 hbW
                      go_wp2_with fail
                      rw [Exit.noGoto_ret]
                      go_ret2
                      refine ⟨by rw [← HB.out]; exact HB8.out, ?_⟩
                      rw [← hT, if_neg HGT.out]
                      rfl
                    · have e512 : ((p : Int) == 512) = false := by rw [beq_eq_false_iff_ne]; omega
                      have HT1 := hide (show T.take (p + 1) = T.take p ++ [x] by rw [List.take_succ_eq_append_getElem hpl]; congr 2; have := List.getElem?_eq_getElem hpl; rw [hTp] at this; exact (Option.some.inj this).symm)
                      have HM1 := hide (MI.take HUT.out hmi.out HROWN.out hr1 hr2 HST.out.1 HST.out.2.1 hTp)
                      obtain ⟨x0, x1, x2, x3, x4⟩ := five_cells HX8.out
                      have hsz8 := HSZ8.out
                      clear hTp hpl hbW
                      go_wp2_with (at_builtin; go_loud (refine wpList_append_reads rfl (.tmp 89) (.tmp 91) _ rfl B 48 i0 _ 5 72 Try.underlying22 hti hz0 hz1 hz2 rfl (by omega) (.slice (some ⟨ob, 0, none⟩) p c6) p (cellsE (T.take p)) rfl (HO8.out.alloc _) (W.heap.size + 1) (some ⟨W.heap.size, 0, none⟩) 1 1 (cellsE [x]) rfl (Reads.new W 48 _ #[.slice x.kA x.kn x.kc, .bool x.put, .slice x.vA x.vn x.vc, .bool x.int, .int .i64 x.n] 1 5 (cellsE [x]) rfl (fun j u hu => by simpa [cellsE, Ed.cells] using hu)) cellsE_one (by unfold maxLen; omega) (by omega) (by simp; omega) ?_); intro v9 w9 hown9 hg9 hat9)
                      have HB9x := hide (((Below.refl B W).alloc hsz8 (.cells #[.slice x.kA x.kn x.kc, .bool x.put, .slice x.vA x.vn x.vc, .bool x.int, .int .i64 x.n] 48)).grown hg9 (by simp; omega) fun q hq => (HO8.out.lt q hq).1)
                      go_roundg (gk - 1)
                      case rel => exact ⟨p + 1, H', by have := HST.out.2.2; omega, by omega, HLH.out, HM1, hide ((HH8.out.on (below_alloc _ _)).kept hg9 (HO8.out.alloc _)), hide (fun s hs => (HSO8.out s hs).below HB9x.out), hide (by rw [HT1.out, cellsE_append]; exact hown9), hide (HB8.out.trans HB9x.out), HKS5⟩
                      case measure => have := HST.out.2.2; omega
          · have htl : 0 < t.length := List.length_pos_iff.2 ht
            have hc2 : (1 : Int) < (r0.c : Int) := by have := HROW.out.cap; omega
            have z1 : (0 : Int) < (t.length : Int) := by omega
            go_wp2_with fail
            refine Calls.mono (lenc_any B _ cap (some ⟨g, 0, none⟩) _ hFg) ?_
            rintro e2 w2 ⟨rfl, rfl⟩
            go_wp2_with fail
            obtain ⟨W1, hW1⟩ : ∃ W1, W1 = (w2.alloc (.cells #[.slice x.kA x.kn x.kc, .bool x.put, .slice x.vA x.vn x.vc, .bool x.int, .int .i64 x.n] 48)).setCell ⟨g, 0, none⟩ (.slice (some ⟨b, o + 5, none⟩) t.length (r0.c - 1)) := ⟨_, rfl⟩
            obtain ⟨r1, hr1e⟩ : ∃ r1 : Rst, r1 = ⟨(some ⟨b, o + 5, none⟩), t.length, (r0.c - 1), t, r0.pl⟩ := ⟨_, rfl⟩
            have hr1 : r1.row = r0.row.tail := by rw [hr1e, HROWN.out]; rfl
            have hr2 : r1.pl = r0.pl := by rw [hr1e]
            have HX0 := hide (new_cells w2 (.cells #[.slice x.kA x.kn x.kc, .bool x.put, .slice x.vA x.vn x.vc, .bool x.int, .int .i64 x.n] 48))
            have HPA := hide (HP.out.on (below_alloc w2 (.cells #[.slice x.kA x.kn x.kc, .bool x.put, .slice x.vA x.vn x.vc, .bool x.int, .int .i64 x.n] 48)))
            have hlt2 := HP.out.hg.choose_spec.1
            have hg2 : g < w2.heap.size := lt_cells hlt2
            have HG1 := hide (grown_setCell (w2.alloc (.cells #[.slice x.kA x.kn x.kc, .bool x.put, .slice x.vA x.vn x.vc, .bool x.int, .int .i64 x.n] 48)) g 0 (.slice (some ⟨b, o + 5, none⟩) t.length (r0.c - 1)))
            have HP1 : Hid (Hp W1 B g cap full (r1 :: rest)) := hide (by rw [hW1]; have := HPA.out.set_l (r1 := r1) hr2; rw [hr1e] at this ⊢; exact this)
            rw [← hW1] at HG1
            have HX1 := hide ((HG1.out.block w2.heap.size (by simp) (fun e => by injection e; omega)).trans HX0.out)
            have hszB : B ≤ w2.heap.size := Nat.le_trans hBg (Nat.le_of_lt hg2)
            have HBW1 := hide (show Below B w2 W1 from ((Below.refl B w2).alloc hszB _).trans (grown_below HG1.out hBg (by simp; omega)))
            have HO1 := hide ((hout.out.alloc (.cells #[.slice x.kA x.kn x.kc, .bool x.put, .slice x.vA x.vn x.vc, .bool x.int, .int .i64 x.n] 48)).kept HG1.out (own_apart (hout.out.alloc _) HPA.out.hg.choose_spec.1 (by decide)))
            have hsz1 : w2.heap.size < W1.heap.size := by have := HG1.out.size; simp at this; omega
            rw [← hW1]
            clear hW1 hlt2 HX0 HPA HG1
            have HPH := hide (fix_heap (H := r0 :: rest) hmi.out.heap r1)
            have hset : (r0 :: rest).set 0 r1 = r1 :: rest := rfl
            rw [hset] at HPH
            have htl1 : tail_ r0 rest r1 = r1 :: rest := by unfold tail_; rw [HROWN.out, List.tail_cons, if_neg ht]
            have HR1 := hide (show r1.Ok w2 B by
              have h1 := HROW.out.drop 1 (by omega)
              rw [hr1e]
              refine ⟨?_, ht⟩
              rw [if_neg (by omega), hA0, HROWN.out, hn0] at h1
              simpa [addr_add] using h1)
            have hok1 : ∀ s ∈ r1 :: rest, s.Ok W1 B := fun s hs => by
              rcases List.mem_cons.1 hs with rfl | hs
              · exact HR1.out.below HBW1.out
              · exact (hso.out s (by simp [hs])).below HBW1.out
            refine Calls.mono (fix_any B g cap full B (r1 :: rest) _ HP1.out hok1 (Nat.le_refl _) hBg (by simp at hlH ⊢; omega) (by simp)) ?_
            rintro e5 w5 ⟨⟨v5, rfl⟩, hp5, hg5⟩
            have hf5 := Fr.of_g (F := B) hg5
            obtain ⟨H', hH'⟩ : ∃ H', H' = (hDown (r1 :: rest) 0 (r1 :: rest).length).1 := ⟨_, rfl⟩
            have hHl : H'.length = (r1 :: rest).length := by rw [hH']; exact hDown_len _ _ _
            have HPH' := HPH.out
            rw [show (r0 :: rest).length = (r1 :: rest).length from rfl, ← hH'] at HPH'
            rw [← hH'] at hp5
            have hheap5 : heapTo H' H'.length := by rw [hHl]; exact HPH'.1
            have hperm5 : H'.Perm (tail_ r0 rest r1) := by rw [htl1]; exact HPH'.2
            have HH5 := hide (show H2 w5 B B H' from ⟨⟨_, _, hp5.hf⟩, fun _ => ⟨g, cap, full, hBg, hp5⟩⟩)
            have HSO5 := hide (fun s (hs : s ∈ H') => show s.Ok w5 B from (hok1 s (by have := hperm5.mem_iff.1 hs; rwa [htl1] at this)).below (hf5.below (Nat.le_refl _) hBg (Nat.le_trans hszB HBW1.out.size)))
            clear hp5 htl1 HPH HPH' hH' hHl hset hok1 hg5 HR1
            have HST := hide (And.intro hheap5 (And.intro hperm5 (show mu H' + 1 = mu (r0 :: rest) by rw [mu_perm hperm5]; exact mu_tail HROWN.out hr1)))
            have HLH := hide (show H'.length ≤ 90000 by rw [hperm5.length_eq]; unfold tail_; split <;> simp at hlH ⊢ <;> omega)
            have HX5 := hide ((hf5.block w2.heap.size hsz1 (by omega) (by omega)).trans HX1.out)
            have HO5 := hide (own_fr HO1.out HP1.out hf5)
            have HB5x := hide (show Below B w2 w5 from HBW1.out.trans (hf5.below (Nat.le_refl _) hBg (Nat.le_trans hszB HBW1.out.size)))
            have HB5 := hide (hb.out.trans HB5x.out)
            have HXOK := hide (show x.Ok w5 B from (HROW.out.ok x (by rw [HROWN.out]; simp)).below HB5x.out)
            have HTOK := hide (fun e (he : e ∈ T) => show e.Ok w5 B from by
              rw [hT] at he
              obtain ⟨l, hl, hel⟩ := List.mem_flatMap.1 (srt_mem _ he)
              exact (((HA.out.below hb.out).ok l hl).ok e hel).below HB5x.out)
            have HSZ5 := hide (Nat.le_trans hszB HB5x.out.size)
            have HKS5 := hide (fun s (hs : s ∈ H') f (hf : f ∈ s.row) => show f.kn ≤ 1048576 by
              obtain ⟨s', hs', _, hrow'⟩ := tail_old hr1 hr2 (HST.out.2.1.mem_iff.1 hs)
              exact hks.out s' hs' f (hrow' f hf))
            clear HP1 HX1 HO1 HBW1 hsz1 hheap5 hperm5 hf5 hr1e
            clear c0 c1 c2 c3 c4 g0 g1 g0a gf gfa q1 hFg
            by_cases hp0 : p = 0
            · have e0 : ¬ (0 : Int) < (p : Int) := by omega
              have HTP := hide (MI.next HUT.out hmi.out HROWN.out (.inl hp0))
              have HP0 := hide hp0
              clear hp0
              go_wp2_with fail
              refine Dag.wp_region_facts 12 (Dag.list [Dag.Is (.int .i64 (p : Int)), Dag.Is (.bool false), Dag.Is (.bool false), Dag.Is undef, Dag.Is undef, Dag.Is undef, Dag.Is undef, Dag.Is undef, Dag.Is undef, Dag.Is undef, Dag.Is undef, Dag.Is undef]) (by kernel_rfl) (by kernel_rfl) (Dag.stable_list (by simp [Dag.Stable.is])) ?_ ?_
              · intro vs W hbW
                simp only [Dag.allOps, List.take_succ_cons, List.take_zero, Dag.fill, Act.put, List.setIfInBounds_toArray, List.set_cons_succ, List.set_cons_zero, Dag.deps, Region.binds, Dag.list, Dag.Is, List.getD_cons_zero, List.getD_cons_succ, and_true, forall_const, Nat.reduceAdd, Region.wanted, reduceIte]
                refine ⟨?_, ?_, ?_, ?_, ?_, ?_, ?_, ?_, ?_, ?_, ?_, ?_⟩
                · (try intro hd); go_simp; (first | done | exact ⟨Below.refl _ _, rfl⟩ | exact Below.refl _ _ | (intro h; cases h))
                · (try intro hd); go_simp; first | exact Below.refl _ _ | exact ⟨Below.refl _ _, HP0.out⟩
                · (try intro hd); go_simp; (first | done | exact ⟨Below.refl _ _, rfl⟩ | exact Below.refl _ _ | (intro h; cases h))
                · (try intro hd); go_simp; (first | done | exact ⟨Below.refl _ _, rfl⟩ | exact Below.refl _ _ | (intro h; cases h))
                · (try intro hd); go_simp; (first | done | exact ⟨Below.refl _ _, rfl⟩ | exact Below.refl _ _ | (intro h; cases h))
                · (try intro hd); go_simp; (first | done | exact ⟨Below.refl _ _, rfl⟩ | exact Below.refl _ _ | (intro h; cases h))
                · (try intro hd); go_simp; (first | done | exact ⟨Below.refl _ _, rfl⟩ | exact Below.refl _ _ | (intro h; cases h))
                · (try intro hd); go_simp; (first | done | exact ⟨Below.refl _ _, rfl⟩ | exact Below.refl _ _ | (intro h; cases h))
                · (try intro hd); go_simp; (first | done | exact ⟨Below.refl _ _, rfl⟩ | exact Below.refl _ _ | (intro h; cases h))
                · (try intro hd); go_simp; (first | done | exact ⟨Below.refl _ _, rfl⟩ | exact Below.refl _ _ | (intro h; cases h))
                · (try intro hd); go_simp; (first | done | exact ⟨Below.refl _ _, rfl⟩ | exact Below.refl _ _ | (intro h; cases h))
                · (try intro hd); go_simp; (first | done | exact ⟨Below.refl _ _, rfl⟩ | exact Below.refl _ _ | (intro h; cases h))
              · intro vs W hbW hk
                simp only [Dag.known, Dag.list, Dag.Is, List.getD_cons_zero, List.getD_cons_succ, and_true] at hk
                obtain ⟨k0, k1, k2, k3, k4, k5, k6, k7, k8, k9, k10, k11⟩ := hk
                simp only [List.take_succ_cons, List.take_zero, List.drop_succ_cons, List.drop_zero, Dag.fill, Act.put, List.setIfInBounds_toArray, List.set_cons_succ, List.set_cons_zero, Nat.reduceAdd, k0, k1, k2, k3, k4, k5, k6, k7, k8, k9, k10, k11]
                clear k0 k1 k2 k3 k4 k5 k6 k7 k8 k9 k10 k11
                have hTp := HTP.out
                have hpl : p < T.length := (List.getElem?_eq_some_iff.1 hTp).1
                have HB8x := hide (HB5x.out.trans (hbW.mono HSZ5.out))
                have HB8 := hide (hb.out.trans HB8x.out)
                have HH8 := hide (HH5.out.on hbW)
                have HX8 := hide (on_cells HX5.out hbW)
                have HO8 := hide (own_on HO5.out hbW)
                have HSO8 := hide (fun s (hs : s ∈ H') => (HSO5.out s hs).below (hbW.mono HSZ5.out))
                have HSZ8 := hide (Nat.le_trans HSZ5.out hbW.size)
                by_cases h512 : p = 512
                · have e512 : ((p : Int) == 512) = true := by rw [h512]; rfl
                  have HGT := hide (show ¬ T.length ≤ 512 by omega)
                  clear hTp hpl h512 hbW
                  go_wp2_with fail
                  rw [Exit.noGoto_ret]
                  go_ret2
                  refine ⟨by rw [← HB.out]; exact HB8.out, ?_⟩
                  rw [← hT, if_neg HGT.out]
                  rfl
                · have e512 : ((p : Int) == 512) = false := by rw [beq_eq_false_iff_ne]; omega
                  have HT1 := hide (show T.take (p + 1) = T.take p ++ [x] by rw [List.take_succ_eq_append_getElem hpl]; congr 2; have := List.getElem?_eq_getElem hpl; rw [hTp] at this; exact (Option.some.inj this).symm)
                  have HM1 := hide (MI.take HUT.out hmi.out HROWN.out hr1 hr2 HST.out.1 HST.out.2.1 hTp)
                  obtain ⟨x0, x1, x2, x3, x4⟩ := five_cells HX8.out
                  have hsz8 := HSZ8.out
                  clear hTp hpl hbW
                  go_wp2_with (at_builtin; go_loud (refine wpList_append_reads rfl (.tmp 89) (.tmp 91) _ rfl B 48 i0 _ 5 72 Try.underlying22 hti hz0 hz1 hz2 rfl (by omega) (.slice A6 p c6) p (cellsE (T.take p)) rfl (HO8.out.alloc _) (W.heap.size + 1) (some ⟨W.heap.size, 0, none⟩) 1 1 (cellsE [x]) rfl (Reads.new W 48 _ #[.slice x.kA x.kn x.kc, .bool x.put, .slice x.vA x.vn x.vc, .bool x.int, .int .i64 x.n] 1 5 (cellsE [x]) rfl (fun j u hu => by simpa [cellsE, Ed.cells] using hu)) cellsE_one (by unfold maxLen; omega) (by omega) (by simp; omega) ?_); intro v9 w9 hown9 hg9 hat9)
                  have HB9x := hide (((Below.refl B W).alloc hsz8 (.cells #[.slice x.kA x.kn x.kc, .bool x.put, .slice x.vA x.vn x.vc, .bool x.int, .int .i64 x.n] 48)).grown hg9 (by simp; omega) fun q hq => (HO8.out.lt q hq).1)
                  go_roundg (gk - 1)
                  case rel => exact ⟨p + 1, H', by have := HST.out.2.2; omega, by omega, HLH.out, HM1, hide ((HH8.out.on (below_alloc _ _)).kept hg9 (HO8.out.alloc _)), hide (fun s hs => (HSO8.out s hs).below HB9x.out), hide (by rw [HT1.out, cellsE_append]; exact hown9), hide (HB8.out.trans HB9x.out), HKS5⟩
                  case measure => have := HST.out.2.2; omega
            · obtain ⟨q, hq⟩ : ∃ q, p = q + 1 := ⟨p - 1, by omega⟩
              have hpT : p - 1 < T.length := by have := hmi.out.le; omega
              obtain ⟨e, he⟩ : ∃ e, e = T[p - 1] := ⟨_, rfl⟩
              have HE := hide (show T[p - 1]? = some e by rw [he]; exact List.getElem?_eq_getElem hpT)
              have HEOK := hide (HTOK.out e (by rw [he]; exact List.getElem_mem hpT))
              obtain ⟨ob, rfl, hok⟩ := own_key HO5.out (k := q) (by rw [List.length_take]; omega)
              have HKC := hide (show w5.cell? ⟨ob, q * 5, none⟩ = some (.slice e.kA e.kn e.kc) by
                rw [hok]
                have : (T.take p)[q]'(by rw [List.length_take]; omega) = e := by rw [List.getElem_take, he]; congr 1; omega
                rw [this])
              have HKN := hide (show e.kn ≤ 1048576 ∧ x.kn ≤ 1048576 from ⟨HKB.out e (srt_mem _ (by rw [← hT, he]; exact List.getElem_mem hpT)), hks.out r0 (by simp) x (by rw [HROWN.out]; simp)⟩)
              have e0 : (0 : Int) < (p : Int) := by omega
              have e1 : (p : Int) - 1 = (q : Int) := by omega
              have hqp : (q : Int) < (p : Int) := by omega
              have hq0 : (0 : Int) ≤ (q : Int) := by omega
              have HWP := hide (wrap_in (p := q) (n := p) (by omega) (by unfold maxLen; omega))
              have hpp : 0 < p := by omega
              have HQQ := hide hq
              clear hok he hpT hp0 hq
              go_wp2_with fail
              refine Dag.wp_region_facts 12 (Dag.list [Dag.Is (.int .i64 (p : Int)), Dag.Is (.bool true), Dag.Is (.bool true), Dag.Is (.slice (some ⟨ob, 0, none⟩) p c6), Dag.Is (.int .i64 (p : Int)), Dag.Is (.int .i64 (q : Int)), Dag.Is (.pointer (some ⟨ob, q * 5, none⟩)), Dag.Is (.pointer (some ⟨ob, q * 5, none⟩)), Dag.Is (.slice e.kA e.kn e.kc), Dag.Is (.pointer (some ⟨w2.heap.size, 0, none⟩)), Dag.Is (.slice x.kA x.kn x.kc), Dag.Is (.bool (decide (e.key = x.key)))]) (by kernel_rfl) (by kernel_rfl) (Dag.stable_list (by simp [Dag.Stable.is])) ?_ ?_
              · intro vs W hbW
                simp only [Dag.allOps, List.take_succ_cons, List.take_zero, Dag.fill, Act.put, List.setIfInBounds_toArray, List.set_cons_succ, List.set_cons_zero, Dag.deps, Region.binds, Dag.list, Dag.Is, List.getD_cons_zero, List.getD_cons_succ, and_true, forall_const, Nat.reduceAdd, Region.wanted, reduceIte]
                refine ⟨?_, ?_, ?_, ?_, ?_, ?_, ?_, ?_, ?_, ?_, ?_, ?_⟩
                · (try intro hd); go_simp; (first | done | exact ⟨Below.refl _ _, rfl⟩ | exact Below.refl _ _ | (intro h; cases h))
                · (try intro hd); go_simp; (first | done | exact ⟨Below.refl _ _, rfl⟩ | exact Below.refl _ _ | (intro h; cases h))
                · (try intro hd); go_simp; (first | done | exact ⟨Below.refl _ _, rfl⟩ | exact Below.refl _ _ | (intro h; cases h))
                · (try intro hd); go_simp; (first | done | exact ⟨Below.refl _ _, rfl⟩ | exact Below.refl _ _ | (intro h; cases h))
                · (try intro hd); go_simp; (first | done | exact ⟨Below.refl _ _, rfl⟩ | exact Below.refl _ _ | (intro h; cases h))
                · (try intro hd); go_simp; exact ⟨Below.refl _ _, HWP.out⟩
                · (try intro hd); go_simp; (first | done | exact ⟨Below.refl _ _, rfl⟩ | exact Below.refl _ _ | (intro h; cases h))
                · (try intro hd); go_simp; (first | done | exact ⟨Below.refl _ _, rfl⟩ | exact Below.refl _ _ | (intro h; cases h))
                · (try intro hd); have z := keep_cell hbW HKC.out; go_simp; (first | done | exact ⟨Below.refl _ _, rfl⟩ | exact Below.refl _ _)
                · (try intro hd); go_simp; (first | done | exact ⟨Below.refl _ _, rfl⟩ | exact Below.refl _ _ | (intro h; cases h))
                · (try intro hd); obtain ⟨z0, z1, z2, z3, z4⟩ := five_cells (on_cells HX5.out hbW); go_simp; (first | done | exact ⟨Below.refl _ _, rfl⟩ | exact Below.refl _ _)
                · (try intro hd); go_simp; refine (equal_b e.kA x.kA e.kn x.kn e.kc x.kc e.key x.key _ ((HEOK.out.rb HSZ5.out).on hbW) ((HXOK.out.rb HSZ5.out).on hbW) HKN.out.1 HKN.out.2).mono ?_; rintro x w' ⟨rfl, hb'⟩; exact ⟨rfl, hb'⟩
              · intro vs W hbW hk
                simp only [Dag.known, Dag.list, Dag.Is, List.getD_cons_zero, List.getD_cons_succ, and_true] at hk
                obtain ⟨k0, k1, k2, k3, k4, k5, k6, k7, k8, k9, k10, k11⟩ := hk
                simp only [List.take_succ_cons, List.take_zero, List.drop_succ_cons, List.drop_zero, Dag.fill, Act.put, List.setIfInBounds_toArray, List.set_cons_succ, List.set_cons_zero, Nat.reduceAdd, k0, k1, k2, k3, k4, k5, k6, k7, k8, k9, k10, k11]
                clear k0 k1 k2 k3 k4 k5 k6 k7 k8 k9 k10 k11
                by_cases hkey : e.key = x.key
                · have hd : decide (e.key = x.key) = true := decide_eq_true hkey
                  have HM1 := hide (MI.skip hmi.out HROWN.out hr1 hr2 HST.out.1 HST.out.2.1 ⟨e, HE.out, hkey⟩ hpp)
                  rw [hd]
                  clear hkey hd
                  go_wp2_with fail
                  go_roundg (gk - 1)
                  case rel => exact ⟨p, H', by have := HST.out.2.2; omega, hp, HLH.out, HM1, hide (HH5.out.on hbW), hide (fun s hs => (HSO5.out s hs).below (hbW.mono HSZ5.out)), hide (own_on HO5.out hbW), hide (HB5.out.trans (hbW.mono HSZ5.out)), HKS5⟩
                  case measure => have := HST.out.2.2; omega
                · have hd : decide (e.key = x.key) = false := decide_eq_false hkey
                  have HTP := hide (MI.next HUT.out hmi.out HROWN.out (.inr ⟨e, HE.out, hkey⟩))
                  rw [hd]
                  clear hkey hd
                  have hTp := HTP.out
                  have hpl : p < T.length := (List.getElem?_eq_some_iff.1 hTp).1
                  have HB8x := hide (HB5x.out.trans (hbW.mono HSZ5.out))
                  have HB8 := hide (hb.out.trans HB8x.out)
                  have HH8 := hide (HH5.out.on hbW)
                  have HX8 := hide (on_cells HX5.out hbW)
                  have HO8 := hide (own_on HO5.out hbW)
                  have HSO8 := hide (fun s (hs : s ∈ H') => (HSO5.out s hs).below (hbW.mono HSZ5.out))
                  have HSZ8 := hide (Nat.le_trans HSZ5.out hbW.size)
                  by_cases h512 : p = 512
                  · have e512 : ((p : Int) == 512) = true := by rw [h512]; rfl
                    have HGT := hide (show ¬ T.length ≤ 512 by omega)
                    clear hTp hpl h512 hbW
                    go_wp2_with fail
                    rw [Exit.noGoto_ret]
                    go_ret2
                    refine ⟨by rw [← HB.out]; exact HB8.out, ?_⟩
                    rw [← hT, if_neg HGT.out]
                    rfl
                  · have e512 : ((p : Int) == 512) = false := by rw [beq_eq_false_iff_ne]; omega
                    have HT1 := hide (show T.take (p + 1) = T.take p ++ [x] by rw [List.take_succ_eq_append_getElem hpl]; congr 2; have := List.getElem?_eq_getElem hpl; rw [hTp] at this; exact (Option.some.inj this).symm)
                    have HM1 := hide (MI.take HUT.out hmi.out HROWN.out hr1 hr2 HST.out.1 HST.out.2.1 hTp)
                    obtain ⟨x0, x1, x2, x3, x4⟩ := five_cells HX8.out
                    have hsz8 := HSZ8.out
                    clear hTp hpl hbW
                    go_wp2_with (at_builtin; go_loud (refine wpList_append_reads rfl (.tmp 89) (.tmp 91) _ rfl B 48 i0 _ 5 72 Try.underlying22 hti hz0 hz1 hz2 rfl (by omega) (.slice (some ⟨ob, 0, none⟩) p c6) p (cellsE (T.take p)) rfl (HO8.out.alloc _) (W.heap.size + 1) (some ⟨W.heap.size, 0, none⟩) 1 1 (cellsE [x]) rfl (Reads.new W 48 _ #[.slice x.kA x.kn x.kc, .bool x.put, .slice x.vA x.vn x.vc, .bool x.int, .int .i64 x.n] 1 5 (cellsE [x]) rfl (fun j u hu => by simpa [cellsE, Ed.cells] using hu)) cellsE_one (by unfold maxLen; omega) (by omega) (by simp; omega) ?_); intro v9 w9 hown9 hg9 hat9)
                    have HB9x := hide (((Below.refl B W).alloc hsz8 (.cells #[.slice x.kA x.kn x.kc, .bool x.put, .slice x.vA x.vn x.vc, .bool x.int, .int .i64 x.n] 48)).grown hg9 (by simp; omega) fun q hq => (HO8.out.lt q hq).1)
                    go_roundg (gk - 1)
                    case rel => exact ⟨p + 1, H', by have := HST.out.2.2; omega, by omega, HLH.out, HM1, hide ((HH8.out.on (below_alloc _ _)).kept hg9 (HO8.out.alloc _)), hide (fun s hs => (HSO8.out s hs).below HB9x.out), hide (by rw [HT1.out, cellsE_append]; exact hown9), hide (HB8.out.trans HB9x.out), HKS5⟩
                    case measure => have := HST.out.2.2; omega
end Go.Proofs.Ytgliindhndcceaa
