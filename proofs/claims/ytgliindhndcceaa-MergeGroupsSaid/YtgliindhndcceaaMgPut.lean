/- put; rows laid by a literal; what comes back as rows. -/
import Derived.Test.YtgliindhndcceaaMgDone
namespace Go.Proofs.Ytgliindhndcceaa
open Go.RowKit

/-- an edit of one byte's key -/
def mkE (g h : Nat) (k v : UInt8) : Ed := ⟨some ⟨g, 0, none⟩, 1, 1, [k], true, some ⟨h, 0, none⟩, 1, 1, [v], false, 0⟩
/-- an edit that takes off -/
def mkD (g : Nat) (k : UInt8) : Ed := ⟨some ⟨g, 0, none⟩, 1, 1, [k], false, none, 0, 0, [], false, 0⟩
theorem max_one : 1 ≤ maxLen := by unfold maxLen; omega
theorem max_ten : ∀ {n : Nat}, n ≤ 10 → n ≤ maxLen := by intro n h; unfold maxLen; omega
theorem put_any (k v : UInt8) (x y : Int) (hx : x = (k.toNat : Int)) (hy : y = (v.toNat : Int)) (w : World) :
    Calls Try.prog 31 #[.int .u8 x, .int .u8 y] w fun e w' => ∃ g h, e = .returned (.agg #[.slice (some ⟨g, 0, none⟩) 1 1, .bool true, .slice (some ⟨h, 0, none⟩) 1 1, .bool false, .int .i64 0]) ∧ (mkE g h k v).Ok w' w'.heap.size ∧ Below w.heap.size w w' := by
  have HX := hide hx
  have HY := hide hy
  clear hx hy
  go_enter Try.func31, Try.ntmps31
  go_wp2_with fail
  generalize hW : World.alloc _ _ = W
  have HW1 : W.heap[w.heap.size]? = some (.cells #[.slice (some ⟨w.heap.size + 1, 0, none⟩) 1 1, .bool true, .slice (some ⟨w.heap.size + 1 + 1, 0, none⟩) 1 1, .bool false, .int .i64 0] 48 (0, 0)) := by rw [← hW]; exact old_cells (old_cells (new_cells w _) _) _
  have HW2 : W.heap[w.heap.size + 1]? = some (.cells #[.int .u8 x] 5 (0, 0)) := by rw [← hW]; exact old_cells (heap_at (w.alloc _) _ _ (by simp)) _
  have HW3 : W.heap[w.heap.size + 1 + 1]? = some (.cells #[.int .u8 y] 5 (0, 0)) := by rw [← hW]; exact heap_at ((w.alloc _).alloc _) _ _ (by simp)
  have HB : Below w.heap.size w W := by rw [← hW]; exact below_then (below_alloc w _) (below_then (below_alloc _ _) (below_alloc _ _))
  clear hW
  obtain ⟨z0, z1, z2, z3, z4⟩ := five_cells HW1
  refine bodyPost_ret (v := (mkE (w.heap.size + 1) (w.heap.size + 1 + 1) k v).agg) (by simp [results, Try.results31, go_sem, z0, z1, z2, z3, z4, mkE, Ed.agg]) rfl ⟨_, _, rfl, ⟨RB.block (HW2.trans (by rw [HX.out]; rfl)) rfl, RB.block (HW3.trans (by rw [HY.out]; rfl)) rfl, Nat.le_refl _, max_one, Nat.le_refl _, max_one⟩, HB⟩
/-- a row laid by a literal -/
theorem row_lit {w W : World} (l : List Ed) (n : Nat) {t : TypeId} {fr : Nat × Nat} {cs : Array Value} (hW : w.alloc (.cells cs t fr) = W) (hn : l.length = n) (hm : n ≤ maxLen) (hc : cs.toList = cellsE l) (ho : ∀ e ∈ l, e.Ok w w.heap.size) :
    Row W W.heap.size (some ⟨w.heap.size, 0, none⟩) n n l ∧ Below w.heap.size w W := by
  subst hW
  exact ⟨⟨(Reads.new w t fr cs n 5 (cellsE l) (by rw [cellsE_len, hn]) (fun j u hu => by rw [← hc] at hu; simpa using hu)).more (by simp), fun e he => (ho e he).on (below_alloc w _), Nat.le_refl _, hm⟩, below_alloc w _⟩
theorem items_lit {w W : World} (l : List Ed) (n : Nat) {t : TypeId} {fr : Nat × Nat} {cs : Array Value} (hW : w.alloc (.cells cs t fr) = W) (hn : l.length = n) (hm : n ≤ maxLen) (hc : cs.toList = cellsI l) (ho : ∀ e ∈ l, e.Ok w w.heap.size) :
    ItR W W.heap.size (some ⟨w.heap.size, 0, none⟩) n n l ∧ Below w.heap.size w W := by
  subst hW
  exact ⟨⟨(Reads.new w t fr cs n 4 (cellsI l) (by rw [cellsI_len, hn]) (fun j u hu => by rw [← hc] at hu; simpa using hu)).more (by simp), fun e he => (ho e he).on (below_alloc w _), Nat.le_refl _, hm⟩, below_alloc w _⟩
theorem rows_lit {w W : World} (L : List Rw) (n : Nat) {t : TypeId} {fr : Nat × Nat} {cs : Array Value} (hW : w.alloc (.cells cs t fr) = W) (hn : L.length = n) (hm : n ≤ maxLen) (hc : cs.toList = L.map Rw.val) (ho : ∀ r ∈ L, Row w w.heap.size r.A r.n r.c r.row) :
    Rows2 W W.heap.size (some ⟨w.heap.size, 0, none⟩) n n L ∧ Below w.heap.size w W := by
  subst hW
  exact ⟨⟨(Reads.new w t fr cs n 1 (L.map Rw.val) (by simp [hn]) (fun j u hu => by rw [← hc] at hu; simpa using hu)).more (by simp), fun r hr => (ho r hr).on (below_alloc w _), Nat.le_refl _, hm⟩, below_alloc w _⟩
theorem byte_lit {w W : World} (k : UInt8) {t : TypeId} {fr : Nat × Nat} {x : Int} (hW : w.alloc (.cells #[.int .u8 x] t fr) = W) (hx : x = (k.toNat : Int)) :
    RB W (some ⟨w.heap.size, 0, none⟩) 1 [k] ∧ Below w.heap.size w W := by
  subst hW
  exact ⟨RB.lit w t _ [k] 1 rfl (by rw [hx]; rfl), below_alloc w _⟩
theorem mkD_ok {w : World} {g : Nat} {k : UInt8} (h : RB w (some ⟨g, 0, none⟩) 1 [k]) : (mkD g k).Ok w w.heap.size := ⟨h, Reads.empty .., Nat.le_refl _, max_one, Nat.le_refl _, Nat.zero_le _⟩
theorem mkE_ok {w : World} {g h : Nat} {k v : UInt8} (h1 : RB w (some ⟨g, 0, none⟩) 1 [k]) (h2 : RB w (some ⟨h, 0, none⟩) 1 [v]) : (mkE g h k v).Ok w w.heap.size := ⟨h1, h2, Nat.le_refl _, max_one, Nat.le_refl _, max_one⟩
theorem size_lit {w W : World} {o : Obj} (hW : w.alloc o = W) : W.heap.size = w.heap.size + 1 := by rw [← hW]; simp
theorem Rows2.srt_ok {w : World} {B : Nat} {A : Option Addr} {n c : Nat} {L : List Rw} (h : Rows2 w B A n c L) : ∀ x ∈ srt (flat L), x.Ok w B := fun x hx => by
  obtain ⟨r, hr, hx⟩ := List.mem_flatMap.1 (srt_mem _ hx)
  exact (h.ok r hr).ok x hx
theorem Row.srt_ok {w : World} {B : Nat} {A : Option Addr} {n c : Nat} {l : List Ed} (h : Row w B A n c l) : ∀ x ∈ srt l, x.Ok w B := fun x hx => h.ok x (srt_mem _ hx)
theorem MAs.row {T : List Ed} {w w' : World} {e : Ending} (h : MAs true T w e w') (hl : T.length ≤ 512) (ho : ∀ x ∈ T, x.Ok w w.heap.size) :
    ∃ A c, e = .returned (.tuple #[.slice A T.length c, .int .i64 0]) ∧ Row w' w'.heap.size A T.length c T ∧ Below w.heap.size w w' := by
  unfold MAs at h
  rw [if_pos rfl] at h
  obtain ⟨hb, h⟩ := h
  rw [if_pos hl] at h
  obtain ⟨v, he, hown⟩ := h
  obtain ⟨A, c, rfl, hc, hm, hr⟩ := own_slice hown
  exact ⟨A, c, he, ⟨hr, fun x hx => (ho x hx).on hb, hc, hm⟩, hb⟩
theorem MAs.long {T : List Ed} {w w' : World} {e : Ending} (h : MAs true T w e w') (hl : ¬ T.length ≤ 512) : e = .returned (.tuple #[.slice none 0 0, .int .i64 3]) ∧ Below w.heap.size w w' := by
  unfold MAs at h
  rw [if_pos rfl] at h
  obtain ⟨hb, h⟩ := h
  rw [if_neg hl] at h
  exact ⟨h, hb⟩
theorem MAs.no {T : List Ed} {w w' : World} {e : Ending} (h : MAs false T w e w') : e = .returned (.tuple #[.slice none 0 0, .int .i64 250]) ∧ Below w.heap.size w w' := by
  unfold MAs at h
  rw [if_neg (by decide)] at h
  exact ⟨h.2, h.1⟩
theorem DoneAs.row {its es : List Ed} {w w' : World} {e : Ending} (h : DoneAs its es w e w') (h1 : right es = true) (h2 : riseI its = true) (ho : ∀ x ∈ its, x.Ok w w.heap.size) (hp : ∀ x ∈ es, x.Ok w w.heap.size) :
    ∃ A c, e = .returned (.tuple #[.slice A (doneN its es).length c, .int .i64 0]) ∧ ItR w' w'.heap.size A (doneN its es).length c (doneN its es) ∧ Below w.heap.size w w' := by
  obtain ⟨hb, h⟩ := h
  rw [if_pos ⟨h1, h2⟩] at h
  obtain ⟨v, he, hown⟩ := h
  obtain ⟨A, c, rfl, hc, hm, hr⟩ := own_slice hown
  exact ⟨A, c, he, ⟨hr, fun x hx => ((doneN_mem its es x hx).elim (ho x) (hp x)).on hb, hc, hm⟩, hb⟩
theorem DoneAs.no {its es : List Ed} {w w' : World} {e : Ending} (h : DoneAs its es w e w') (hn : ¬ (right es = true ∧ riseI its = true)) : e = .returned (.tuple #[.slice none 0 0, .int .i64 250]) ∧ Below w.heap.size w w' := by
  obtain ⟨hb, h⟩ := h
  rw [if_neg hn] at h
  exact ⟨h, hb⟩
end Go.Proofs.Ytgliindhndcceaa
