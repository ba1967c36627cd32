/- How merging goes on: what stands in the heap against what is still to come. No program in sight. -/
import Derived.Test.YtgliindhndcceaaMgSpec
namespace Go.Proofs.Ytgliindhndcceaa

/-- k lies behind the first p edits of T -/
def past (T : List Ed) (p : Nat) (k : List UInt8) : Prop := p = 0 ∨ ∃ e, T[p - 1]? = some e ∧ Mg.lt e.key k = true
/-- e is what the rows say of k -/
def Best (H : List Rst) (k : List UInt8) (e : Ed) : Prop := ∃ r ∈ H, e ∈ r.row ∧ e.key = k ∧ ∀ s ∈ H, ∀ f ∈ s.row, f.key = k → s.pl ≤ r.pl
structure MI (T : List Ed) (p : Nat) (H : List Rst) : Prop where
  heap : heapTo H H.length
  ne : ∀ r ∈ H, r.row ≠ [] ∧ up r.row
  nd : (H.map Rst.pl).Nodup
  le : p ≤ T.length
  best : ∀ k, past T p k → (∀ e, Best H k e → fd T k = some e) ∧ (∀ e, fd T k = some e → ∃ r ∈ H, ∃ f ∈ r.row, f.key = k)
  ge : 0 < p → ∀ e, T[p - 1]? = some e → ∀ r ∈ H, ∀ f ∈ r.row, Mg.lt f.key e.key = false
theorem up_at {T : List Ed} (hu : up T) : ∀ {i j : Nat} {a b : Ed}, i < j → T[i]? = some a → T[j]? = some b → Mg.lt a.key b.key = true := by
  induction T with
  | nil => intro i j a b _ h; simp at h
  | cons e T ih =>
    intro i j a b hij ha hb
    rw [up_cons] at hu
    cases j with
    | zero => omega
    | succ j =>
      rw [List.getElem?_cons_succ] at hb
      cases i with
      | zero =>
        obtain rfl : e = a := by simpa using ha
        exact hu.1 b (List.mem_of_getElem? hb)
      | succ i =>
        rw [List.getElem?_cons_succ] at ha
        exact ih hu.2 (by omega) ha hb
theorem past_at {T : List Ed} (hu : up T) {p : Nat} {y : Ed} (hy : T[p]? = some y) : past T p y.key := by
  rcases Nat.eq_zero_or_pos p with h | h
  · exact .inl h
  · right
    have hlt : p < T.length := (List.getElem?_eq_some_iff.1 hy).1
    refine ⟨T[p - 1], List.getElem?_eq_getElem (by omega), ?_⟩
    exact up_at hu (by omega) (List.getElem?_eq_getElem (by omega : p - 1 < T.length)) hy
/-- nothing left: all is out -/
theorem MI.done {T : List Ed} {p : Nat} (hu : up T) (h : MI T p []) : p = T.length := by
  rcases Nat.lt_or_ge p T.length with hlt | hge
  · obtain ⟨r, hr, _⟩ := (h.best _ (past_at hu (List.getElem?_eq_getElem hlt))).2 _ (fd_mem hu (List.getElem_mem hlt))
    cases hr
  · have := h.le; omega
theorem key_head {r : Rst} {x : Ed} {t : List Ed} (h : r.row = x :: t) : r.key = x.key := by unfold Rst.key; rw [h]
section
variable {T : List Ed} {p : Nat} {r0 : Rst} {rest : List Rst} {x : Ed} {t : List Ed}
theorem MI.min (h : MI T p (r0 :: rest)) (hr : r0.row = x :: t) : ∀ s ∈ r0 :: rest, ∀ f ∈ s.row, Mg.lt f.key x.key = false ∧ (f.key = x.key → s.pl ≤ r0.pl) := by
  intro s hs f hf
  obtain ⟨hne, hup⟩ := h.ne s hs
  obtain ⟨i, hi, rfl⟩ := List.getElem_of_mem hs
  have hroot := heap_root h.heap i hi
  rw [pt_eq hi, pt_eq (by simp : 0 < (r0 :: rest).length)] at hroot
  generalize (r0 :: rest)[i] = s at *
  have hroot' : leR r0 s := hroot
  rw [leR_iff, key_head hr] at hroot'
  cases hrow : s.row with
  | nil => exact absurd hrow hne
  | cons y u =>
    rw [key_head hrow] at hroot'
    rw [hrow] at hf hup
    rw [up_cons] at hup
    have hyf : f = y ∨ Mg.lt y.key f.key = true := by
      rcases List.mem_cons.1 hf with rfl | h
      · exact .inl rfl
      · exact .inr (hup.1 f h)
    rcases hroot' with h1 | ⟨h1, h2⟩
    · have h3 : Mg.lt x.key f.key = true := by
        rcases hyf with rfl | h4
        · exact h1
        · exact Mg.lt_trans h1 h4
      exact ⟨Mg.lt_asymm h3, fun he => absurd he.symm (Mg.lt_ne h3)⟩
    · rcases hyf with rfl | h4
      · exact ⟨by rw [h1, Mg.lt_irrefl], fun _ => h2⟩
      · rw [← h1] at h4
        exact ⟨Mg.lt_asymm h4, fun he => absurd he.symm (Mg.lt_ne h4)⟩
theorem MI.bestx (h : MI T p (r0 :: rest)) (hr : r0.row = x :: t) : Best (r0 :: rest) x.key x :=
  ⟨r0, by simp, by rw [hr]; simp, rfl, fun s hs f hf hk => (h.min hr s hs f hf).2 hk⟩
/-- the next edit is the first one still to come, or one of a key that is out -/
theorem MI.next (hu : up T) (h : MI T p (r0 :: rest)) (hr : r0.row = x :: t) (hp : p = 0 ∨ ∃ e, T[p - 1]? = some e ∧ e.key ≠ x.key) : T[p]? = some x := by
  have hpast : past T p x.key := by
    rcases hp with h0 | ⟨e, he, hne⟩
    · exact .inl h0
    · rcases Nat.eq_zero_or_pos p with h0 | h0
      · exact .inl h0
      · right
        refine ⟨e, he, ?_⟩
        have hge := h.ge h0 e he r0 (by simp) x (by rw [hr]; simp)
        rcases Mg.lt_tri e.key x.key with h1 | h1 | h1
        · exact h1
        · exact absurd h1 hne
        · rw [hge] at h1; cases h1
  have hfx := (h.best _ hpast).1 x (h.bestx hr)
  obtain ⟨hxT, _⟩ := fd_some hfx
  obtain ⟨i, hi, hix⟩ := List.getElem_of_mem hxT
  have hix' : T[i]? = some x := by rw [List.getElem?_eq_getElem hi, hix]
  have hpi : p ≤ i := by
    rcases Nat.lt_or_ge i p with hlt | hge
    · exfalso
      rcases hpast with h0 | ⟨e, he, hlt2⟩
      · omega
      · rcases Nat.lt_or_ge i (p - 1) with h1 | h1
        · have := up_at hu h1 hix' he
          rw [Mg.lt_asymm this] at hlt2; cases hlt2
        · obtain rfl : i = p - 1 := by omega
          rw [hix'] at he
          obtain rfl := Option.some.inj he
          rw [Mg.lt_irrefl] at hlt2; cases hlt2
    · exact hge
  rcases Nat.lt_or_ge p i with hlt | hge
  · exfalso
    have hpl : p < T.length := by omega
    have hy := List.getElem?_eq_getElem hpl
    obtain ⟨r, hr', f, hf, hk⟩ := (h.best _ (past_at hu hy)).2 _ (fd_mem hu (List.getElem_mem hpl))
    have h1 := (h.min hr r hr' f hf).1
    rw [hk, up_at hu hlt hy hix'] at h1
    cases h1
  · obtain rfl : p = i := by omega
    exact hix'
/-- what is left when the next edit is taken -/
def tail_ (r0 : Rst) (rest : List Rst) (r1 : Rst) : List Rst := if r0.row.tail = [] then rest else r1 :: rest
theorem tail_old {r1 : Rst} (h1 : r1.row = r0.row.tail) (h2 : r1.pl = r0.pl) {s : Rst} (hs : s ∈ tail_ r0 rest r1) : ∃ s' ∈ r0 :: rest, s.pl = s'.pl ∧ ∀ f ∈ s.row, f ∈ s'.row := by
  unfold tail_ at hs
  split at hs
  · exact ⟨s, by simp [hs], rfl, fun _ h => h⟩
  · rcases List.mem_cons.1 hs with rfl | hs
    · exact ⟨r0, by simp, h2, fun f hf => List.mem_of_mem_tail (by rw [← h1]; exact hf)⟩
    · exact ⟨s, by simp [hs], rfl, fun _ h => h⟩
theorem tail_new {r1 : Rst} (h1 : r1.row = r0.row.tail) (h2 : r1.pl = r0.pl) (hr : r0.row = x :: t) {s : Rst} (hs : s ∈ r0 :: rest) {f : Ed} (hf : f ∈ s.row) (hne : f ≠ x) : ∃ s' ∈ tail_ r0 rest r1, s'.pl = s.pl ∧ f ∈ s'.row := by
  unfold tail_
  rcases List.mem_cons.1 hs with rfl | hs
  · rw [hr] at hf
    rcases List.mem_cons.1 hf with rfl | hf
    · exact absurd rfl hne
    · rw [if_neg (by rw [hr]; intro h; rw [List.tail_cons] at h; rw [h] at hf; cases hf)]
      exact ⟨r1, by simp, h2, by rw [h1, hr]; exact hf⟩
  · refine ⟨s, ?_, rfl, hf⟩
    split
    · exact hs
    · simp [hs]
theorem MI.step (h : MI T p (r0 :: rest)) (hr : r0.row = x :: t) {r1 : Rst} (h1 : r1.row = r0.row.tail) (h2 : r1.pl = r0.pl) {H' : List Rst} (hh : heapTo H' H'.length) (hpm : H'.Perm (tail_ r0 rest r1))
    {q : Nat} (hq : q ≤ T.length) (hqp : ∀ k, past T q k → past T p k ∧ Mg.lt x.key k = true) (hge : 0 < q → ∀ e, T[q - 1]? = some e → e.key = x.key) : MI T q H' := by
  have hm : ∀ s, s ∈ H' ↔ s ∈ tail_ r0 rest r1 := fun s => hpm.mem_iff
  refine ⟨hh, fun s hs => ?_, ?_, hq, fun k hk => ?_, fun h0 e he s hs f hf => ?_⟩
  · have hs' := (hm s).1 hs
    unfold tail_ at hs'
    split at hs'
    · exact h.ne s (by simp [hs'])
    · rename_i hnt
      rcases List.mem_cons.1 hs' with rfl | hs'
      · rw [h1]
        refine ⟨hnt, ?_⟩
        have hup := (h.ne r0 (by simp)).2
        rw [hr] at hup ⊢
        exact (up_cons.1 hup).2
      · exact h.ne s (by simp [hs'])
  · rw [(hpm.map Rst.pl).nodup_iff]
    have hnd := h.nd
    rw [List.map_cons] at hnd
    unfold tail_
    split
    · exact (List.nodup_cons.1 hnd).2
    · rw [List.map_cons, h2]; exact hnd
  · obtain ⟨hpk, hxk⟩ := hqp k hk
    have hb := h.best k hpk
    refine ⟨fun e ⟨r, hr', he, hke, hmax⟩ => ?_, fun e he => ?_⟩
    · obtain ⟨r', hr'', hpl, hrow⟩ := tail_old h1 h2 ((hm r).1 hr')
      refine hb.1 e ⟨r', hr'', hrow e he, hke, fun s hs f hf hkf => ?_⟩
      obtain ⟨s', hs', hpl', hf'⟩ := tail_new h1 h2 hr hs hf (by rintro rfl; rw [hkf, Mg.lt_irrefl] at hxk; cases hxk)
      have := hmax s' ((hm s').2 hs') f hf' hkf
      omega
    · obtain ⟨s, hs, f, hf, hkf⟩ := hb.2 e he
      obtain ⟨s', hs', _, hf'⟩ := tail_new h1 h2 hr hs hf (by rintro rfl; rw [hkf, Mg.lt_irrefl] at hxk; cases hxk)
      exact ⟨s', (hm s').2 hs', f, hf', hkf⟩
  · obtain ⟨s', hs', _, hrow⟩ := tail_old h1 h2 ((hm s).1 hs)
    rw [hge h0 e he]
    exact (h.min hr s' hs' f (hrow f hf)).1
/-- an edit of a key that is out is passed over -/
theorem MI.skip (h : MI T p (r0 :: rest)) (hr : r0.row = x :: t) {r1 : Rst} (h1 : r1.row = r0.row.tail) (h2 : r1.pl = r0.pl) {H' : List Rst} (hh : heapTo H' H'.length) (hpm : H'.Perm (tail_ r0 rest r1))
    (hp : ∃ e, T[p - 1]? = some e ∧ e.key = x.key) (hp0 : 0 < p) : MI T p H' := by
  obtain ⟨e, he, hk⟩ := hp
  refine h.step hr h1 h2 hh hpm h.le (fun k hpk => ⟨hpk, ?_⟩) (fun _ e' he' => ?_)
  · rcases hpk with h0 | ⟨e', he', hlt⟩
    · omega
    · rw [he] at he'
      obtain rfl := Option.some.inj he'
      rwa [hk] at hlt
  · rw [he] at he'
    obtain rfl := Option.some.inj he'
    exact hk
/-- an edit of a new key is laid out -/
theorem MI.take (hu : up T) (h : MI T p (r0 :: rest)) (hr : r0.row = x :: t) {r1 : Rst} (h1 : r1.row = r0.row.tail) (h2 : r1.pl = r0.pl) {H' : List Rst} (hh : heapTo H' H'.length) (hpm : H'.Perm (tail_ r0 rest r1))
    (hx : T[p]? = some x) : MI T (p + 1) H' := by
  have hlt : p < T.length := (List.getElem?_eq_some_iff.1 hx).1
  refine h.step hr h1 h2 hh hpm hlt (fun k hpk => ?_) (fun _ e he => ?_)
  · rcases hpk with h0 | ⟨e, he, hlt2⟩
    · omega
    · rw [Nat.add_sub_cancel, hx] at he
      obtain rfl := Option.some.inj he
      refine ⟨?_, hlt2⟩
      rcases past_at hu hx with h0 | ⟨y, hy, hly⟩
      · exact .inl h0
      · exact .inr ⟨y, hy, Mg.lt_trans hly hlt2⟩
  · rw [Nat.add_sub_cancel, hx] at he
    obtain rfl := Option.some.inj he
    rfl
end
end Go.Proofs.Ytgliindhndcceaa
