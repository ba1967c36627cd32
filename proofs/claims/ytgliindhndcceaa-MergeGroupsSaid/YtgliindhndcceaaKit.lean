/- Words for memory that all walks of this seat share: a slice that reads as a list; what becomes of it under new blocks, stores elsewhere, calls. No program in sight. -/
import Derived.Below
import Derived.Laws.OwnMore
import Derived.Deep.AppendLies
import Derived.Deep.Draws
import Derived.Maps.AppendAt
import Derived.RegionTactic
import Derived.OwnWalk
import Derived.Deep.MidRow
import Derived.Laws.CopyOwn
import Derived.Laws.Tables
import Derived.Laws.Rows
import Derived.Laws.Strings
import Derived.Laws.BytesArg
import Derived.Laws.IdiomStrings
namespace Go.Proofs.Ytgliindhndcceaa
open Go.RowKit

theorem hide {p : Prop} (h : p) : Hid p := h

theorem setCell_twice (w : World) (a : Addr) (u v : Value) : (w.setCell a u).setCell a v = w.setCell a v := by
  have h : ∀ h : Array Obj, ∀ f g : Obj → Obj, (h.modify a.block f).modify a.block g = h.modify a.block (g ∘ f) := fun h f g => by
    apply Array.ext
    · simp
    · intro i h1 h2
      simp only [Array.getElem_modify]
      split <;> rfl
  unfold World.setCell
  simp only [h]
  congr 2
  funext o
  cases o <;> simp
  split <;> simp

theorem addr_add (b o n : Nat) : (⟨b, o, none⟩ : Addr).add n = ⟨b, o + n, none⟩ := by
  unfold Addr.add
  split
  · subst_vars; rfl
  · rfl

/-- THE SLICE VALUE '.slice A n c' READS AS THE CELLS xs (so many for each of its n elements), in a block below number B. -/
def Reads (w : World) (B size : Nat) (A : Option Addr) (n : Nat) (xs : List Value) : Prop :=
  xs.length = n * size ∧ (0 < n → ∃ b off, A = some ⟨b, off, none⟩ ∧ b < B ∧ ∀ j u, xs[j]? = some u → w.cell? ⟨b, off + j, none⟩ = some u)

section
variable {w w' : World} {B B' size n : Nat} {A : Option Addr} {xs : List Value}
theorem Reads.empty (w : World) (B size : Nat) (A : Option Addr) : Reads w B size A 0 [] := ⟨by simp, fun h => absurd h (by omega)⟩
theorem Reads.len (h : Reads w B 1 A n xs) : xs.length = n := by have := h.1; omega
theorem Reads.keep (h : Reads w B size A n xs) (hk : ∀ b o, b < B → w'.cell? ⟨b, o, none⟩ = w.cell? ⟨b, o, none⟩) : Reads w' B size A n xs :=
  ⟨h.1, fun hn => by
    obtain ⟨b, off, e, hb, hc⟩ := h.2 hn
    exact ⟨b, off, e, hb, fun j u hu => (hk _ _ hb).trans (hc j u hu)⟩⟩
theorem Reads.more (h : Reads w B size A n xs) (hB : B ≤ B') : Reads w B' size A n xs :=
  ⟨h.1, fun hn => by
    obtain ⟨b, off, e, hb, hc⟩ := h.2 hn
    exact ⟨b, off, e, by omega, hc⟩⟩
theorem Reads.below (h : Reads w B size A n xs) (hb : Below B w w') : Reads w' B size A n xs := h.keep fun b o hp => hb.cell (p := ⟨b, o, none⟩) hp
/-- over a call: the caller's world 'w', the callee's end 'w1' -/
theorem Reads.on (h : Reads w w.heap.size size A n xs) (hb : Below w.heap.size w w') : Reads w' w'.heap.size size A n xs := (h.below hb).more hb.size
theorem Reads.drew (h : Reads w B size A n xs) : Reads w.drew B size A n xs := h
theorem Reads.drewN (h : Reads w B size A n xs) (k : Nat) : Reads (w.drewN k) B size A n xs := h
theorem Reads.alloc (h : Reads w B size A n xs) (hB : B ≤ w.heap.size) (o : Obj) : Reads (w.alloc o) B size A n xs := h.keep fun b o' hp => World.cell?_alloc_lt w o ⟨b, o', none⟩ (by show b < _; omega)
theorem Reads.setCell (h : Reads w B size A n xs) {p : Addr} (hB : B ≤ p.block) (u : Value) : Reads (w.setCell p u) B size A n xs :=
  h.keep fun b o hq => World.cell?_setCell_other w p ⟨b, o, none⟩ u (fun e => by subst e; simp at hB; omega)
theorem Reads.grown (h : Reads w B size A n xs) {row : Option Nat} (hg : w.grownBy w' row) (hB : B ≤ w.heap.size) (hr : ∀ g, row = some g → B ≤ g) : Reads w' B size A n xs :=
  h.keep fun b _ hp => World.cell?_of_block (hg.block b (by omega) (fun e => by have := hr _ e.symm; omega))
theorem Reads.cell {k : Nat} {u : Value} (h : Reads w B 1 A n xs) (hk : k < n) (hu : xs[k]? = some u) : ∃ b off, A = some ⟨b, off, none⟩ ∧ b < B ∧ w.cell? ⟨b, off + k, none⟩ = some u := by
  obtain ⟨b, off, e, hb, hc⟩ := h.2 (by omega)
  exact ⟨b, off, e, hb, hc k u hu⟩
theorem Reads.new (w : World) (e : TypeId) (fr : Nat × Nat) (cs : Array Value) (n size : Nat) (xs : List Value) (hn : xs.length = n * size) (hx : ∀ (j : Nat) (u : Value), xs[j]? = some u → cs[j]? = some u) :
    Reads (w.alloc (.cells cs e fr)) (w.heap.size + 1) size (some ⟨w.heap.size, 0, none⟩) n xs :=
  ⟨hn, fun _ => ⟨_, _, rfl, by omega, fun j u hu => by
    have : (w.alloc (.cells cs e fr)).heap[w.heap.size]? = some (.cells cs e fr) := heap_alloc_new w _
    rw [Nat.zero_add]
    unfold World.cell?
    simp only [this]
    exact hx j u hu⟩⟩
theorem Reads.take (h : Reads w B size A n xs) (m : Nat) (hm : m ≤ n) : Reads w B size A m (xs.take (m * size)) :=
  ⟨by rw [List.length_take, h.1]; exact Nat.min_eq_left (Nat.mul_le_mul_right _ hm), fun hn => by
    obtain ⟨b, off, e, hb, hc⟩ := h.2 (by omega)
    refine ⟨b, off, e, hb, fun j u hu => hc j u ?_⟩
    rw [List.getElem?_take] at hu
    split at hu
    · exact hu
    · cases hu⟩
theorem Reads.drop (h : Reads w B size A n xs) {k cap : Nat} (hk : k ≤ n) (hc : n ≤ cap) :
    Reads w B size (if cap = k then A else A.map (·.add (k * size))) (n - k) (xs.drop (k * size)) := by
  refine ⟨by rw [List.length_drop, h.1, Nat.sub_mul], fun hn => ?_⟩
  obtain ⟨b, off, rfl, hb, hcell⟩ := h.2 (by omega)
  rw [if_neg (by omega)]
  refine ⟨b, off + k * size, by simp [addr_add], hb, fun j u hu => ?_⟩
  rw [Nat.add_assoc]
  exact hcell _ u (by rw [← hu, List.getElem?_drop])
theorem Reads.of_own {base : Nat} {e : TypeId} {c : Nat} (h : w.ownsRow base e size (.slice A n c) n xs) : Reads w w.heap.size size A n xs := by
  refine ⟨h.1, fun hn => ?_⟩
  obtain ⟨g, cap, hv, _, hlt⟩ := h.form hn
  have hA : A = some ⟨g, 0, none⟩ := by injection hv
  subst hA
  refine ⟨g, 0, rfl, hlt, fun j u hu => ?_⟩
  have := h.cells (g := g) rfl j u hu
  rwa [addr_add] at this
/-- What the call owns is a slice that reads. -/
theorem own_slice {base : Nat} {e : TypeId} {v : Value} (h : w.ownsRow base e size v n xs) : ∃ A c, v = .slice A n c ∧ n ≤ c ∧ c ≤ maxLen ∧ Reads w w.heap.size size A n xs := by
  rcases h.2 with ⟨rfl, rfl⟩ | ⟨g, cap, cur, rfl, _, _, hnc, hcm, _⟩
  · exact ⟨_, _, rfl, Nat.le_refl _, by simp [maxLen], h.1, fun hn => absurd hn (by omega)⟩
  · exact ⟨_, _, rfl, hnc, hcm, .of_own h⟩
end

theorem own_on {w w' : World} {base : Nat} {e : TypeId} {size n : Nat} {v : Value} {xs : List Value} (h : w.ownsRow base e size v n xs) (hb : Below w.heap.size w w') : w'.ownsRow base e size v n xs :=
  h.kept (row := none) ⟨hb.os, hb.tape, hb.output, hb.size, fun k hk _ => hb.block k hk⟩ (by cases hv : v.ownBlock <;> simp)
/-- behind an append to a row that the call made itself -/
theorem below_append {w0 w w' : World} {base : Nat} {e : TypeId} {size n : Nat} {v : Value} {xs : List Value} (hb : Below w0.heap.size w0 w) (ho : w.ownsRow base e size v n xs) (hbase : w0.heap.size ≤ base) (hg : w.grownBy w' v.ownBlock) : Below w0.heap.size w0 w' :=
  hb.grown hg hb.size fun k hk => Nat.le_trans hbase (ho.lt k hk).1

/-! ### append of whatever reads, onto a row of the call's own -/
section
variable {P : Program}
theorem run_append_none (w : World) (base : Nat) (t ty e : TypeId) (i : TypeInfo) (size : Nat) (ht : P.underlying t = some (.slice e)) (hi : P.info? e = some i)
    (v : Value) (n : Nat) (xs : List Value) (hown : w.ownsRow base e size v n xs) (c : Nat) : (Builtin.append_ #[t, t] ty #[v, .slice none 0 c]).run P w = .ok v w := by
  rcases hown.2 with ⟨rfl, rfl⟩ | ⟨g, cap, cur, rfl, _, _, hnc, _⟩
  · simp [Builtin.append_, run_underlying ht, sizeOf, typeInfo, hi, Builtin.lenOf, Builtin.firstCells]
  · simp [Builtin.append_, run_underlying ht, sizeOf, typeInfo, hi, Builtin.lenOf, Builtin.firstCells, hnc, storeCells]

theorem run_append_reads (w : World) (base : Nat) (t ty e : TypeId) (i : TypeInfo) (z : Value) (size bytes : Nat) (ht : P.underlying t = some (.slice e)) (hi : P.info? e = some i) (hz : i.zero = some z)
    (hsize : i.size = size) (hby : i.bytes = bytes) (hzs : z.cells.size = size) (hsz : 0 < size)
    (v : Value) (n : Nat) (xs : List Value) (hown : w.ownsRow base e size v n xs)
    (B : Nat) (A : Option Addr) (m c : Nat) (news : List Value) (hr : Reads w B size A m news) (h1 : ∀ u ∈ news, u.oneCell' = true)
    (h63 : n + m ≤ maxLen) (hbytes : (n + m) * bytes ≤ 140737488355328) (hbase : base ≤ w.heap.size) :
    ∃ v' w', (Builtin.append_ #[t, t] ty #[v, .slice A m c]).run P w = .ok v' w' ∧ w'.ownsRow base e size v' (n + m) (xs ++ news) ∧ w.grownBy w' v.ownBlock ∧
      (v'.ownBlock = v.ownBlock ∨ v'.ownBlock = some w.heap.size) := by
  cases A with
  | none =>
    have hm : m = 0 := by
      rcases Nat.eq_zero_or_pos m with h0 | h0
      · exact h0
      · obtain ⟨b, off, h, _⟩ := hr.2 h0
        cases h
    subst hm
    have hn : news = [] := List.eq_nil_of_length_eq_zero (by simpa using hr.1)
    subst hn
    exact ⟨v, w, run_append_none w base t ty e i size ht hi v n xs hown c, by simpa using hown, World.grownBy.refl w _, .inl rfl⟩
  | some ad =>
    have hcells : ∀ j u, news[j]? = some u → w.cell? (ad.add j) = some u := by
      intro j u hu
      have h0 : 0 < m := by
        rcases Nat.eq_zero_or_pos m with h0 | h0
        · subst h0
          have hn : news = [] := List.eq_nil_of_length_eq_zero (by simpa using hr.1)
          subst hn
          simp at hu
        · exact h0
      obtain ⟨b, off, h, _, hc⟩ := hr.2 h0
      injection h with h
      subst h
      rw [addr_add]
      exact hc j u hu
    obtain ⟨v', w', hrun, h2, h3, _, h5⟩ := run_append_own_at (P := P) w base t ty e i z size bytes ht hi hz hsize hby hzs hsz v n xs hown ad m c news hr.1 hcells h1 h63 hbytes hbase
    exact ⟨v', w', hrun, h2, h3, h5⟩

theorem wp_append_reads {w : World} {o : Oper} {a : Act} {K : Act → World → Prop} {Q : Exit → Act → World → Prop} (s x : Operand) (t : TypeId)
    (ho : o.op = .call { callee := .builtin .append, args := #[s, x], argTypes := #[t, t] })
    (base : Nat) (e : TypeId) (i : TypeInfo) (z : Value) (size bytes : Nat) (ht : P.underlying t = some (.slice e)) (hi : P.info? e = some i) (hz : i.zero = some z)
    (hsize : i.size = size) (hby : i.bytes = bytes) (hzs : z.cells.size = size) (hsz : 0 < size)
    (v : Value) (n : Nat) (xs : List Value) (hs : a.eval s = v) (hown : w.ownsRow base e size v n xs)
    (B : Nat) (A : Option Addr) (m c : Nat) (news : List Value) (hx : a.eval x = .slice A m c) (hr : Reads w B size A m news) (h1 : ∀ u ∈ news, u.oneCell' = true)
    (h63 : n + m ≤ maxLen) (hbytes : (n + m) * bytes ≤ 140737488355328) (hbase : base ≤ w.heap.size)
    (h : ∀ v' w', w'.ownsRow base e size v' (n + m) (xs ++ news) → w.grownBy w' v.ownBlock → (v'.ownBlock = v.ownBlock ∨ v'.ownBlock = some w.heap.size) → K (a.put o.dst v') w') : o.wp P a w K Q := by
  obtain ⟨v', w', hrun, h2, h3, h4⟩ := run_append_reads (P := P) w base t o.type e i z size bytes ht hi hz hsize hby hzs hsz v n xs hown B A m c news hr h1 h63 hbytes hbase
  unfold Oper.wp execOp
  simp only [ho, resolve, invoke, builtin, Sem.run_bind, Sem.run_pure, Result.andThen_ok, List.map_toArray, List.map_cons, List.map_nil, hs, hx, hrun]
  exact h v' w' h2 h3 h4

theorem wpList_append_reads {w : World} {ops : Array Oper} {rest : List Oper} {o : Oper} {a : Act} {Q : Exit → Act → World → Prop} (hgd : o.guard = none) (s x : Operand) (t : TypeId)
    (ho : o.op = .call { callee := .builtin .append, args := #[s, x], argTypes := #[t, t] })
    (base : Nat) (e : TypeId) (i : TypeInfo) (z : Value) (size bytes : Nat) (ht : P.underlying t = some (.slice e)) (hi : P.info? e = some i) (hz : i.zero = some z)
    (hsize : i.size = size) (hby : i.bytes = bytes) (hzs : z.cells.size = size) (hsz : 0 < size)
    (v : Value) (n : Nat) (xs : List Value) (hs : a.eval s = v) (hown : w.ownsRow base e size v n xs)
    (B : Nat) (A : Option Addr) (m c : Nat) (news : List Value) (hx : a.eval x = .slice A m c) (hr : Reads w B size A m news) (h1 : ∀ u ∈ news, u.oneCell' = true)
    (h63 : n + m ≤ maxLen) (hbytes : (n + m) * bytes ≤ 140737488355328) (hbase : base ≤ w.heap.size)
    (h : ∀ v' w', w'.ownsRow base e size v' (n + m) (xs ++ news) → w.grownBy w' v.ownBlock → (v'.ownBlock = v.ownBlock ∨ v'.ownBlock = some w.heap.size) → wpList P ops Q rest (a.put o.dst v') w') : wpList P ops Q (o :: rest) a w :=
  wpList_plain hgd fun _ hK => wp_append_reads s x t ho base e i z size bytes ht hi hz hsize hby hzs hsz v n xs hs hown B A m c news hx hr h1 h63 hbytes hbase fun v' w' h2 h3 h4 => hK _ _ (h v' w' h2 h3 h4)
end

theorem keep_cell {w w' : World} (hb : Below w.heap.size w w') {b o : Nat} {v : Value} (h : w.cell? ⟨b, o, none⟩ = some v) : w'.cell? ⟨b, o, none⟩ = some v :=
  (hb.cell (p := ⟨b, o, none⟩) (World.block_lt_of_cell? w ⟨b, o, none⟩ h)).trans h
theorem keep_frozen {w w' : World} (hb : Below w.heap.size w w') {b o : Nat} (hlt : b < w.heap.size) (h : w.frozen? ⟨b, o, none⟩ = false) : w'.frozen? ⟨b, o, none⟩ = false :=
  (hb.frozen (p := ⟨b, o, none⟩) hlt).trans h
theorem keep_range {w w' : World} (hb : Below w.heap.size w w') {b o : Nat} {cs : List Value} (h : w.rangeAt b o cs) : w'.rangeAt b o cs := fun j v hv => keep_cell hb (h j v hv)

/-- an append whose run is known -/
theorem wpList_append_run {P : Program} {w : World} {ops : Array Oper} {rest : List Oper} {o : Oper} {a : Act} {Q : Exit → Act → World → Prop} (hgd : o.guard = none) (s x : Operand) (tys : Array TypeId)
    (ho : o.op = .call { callee := .builtin .append, args := #[s, x], argTypes := tys }) (v u r : Value) (w' : World) (hs : a.eval s = v) (hx : a.eval x = u)
    (hrun : (Builtin.append_ tys o.type #[v, u]).run P w = .ok r w') (h : wpList P ops Q rest (a.put o.dst r) w') : wpList P ops Q (o :: rest) a w := by
  refine wpList_plain hgd fun _ hK => ?_
  unfold Oper.wp execOp
  simp only [ho, resolve, invoke, builtin, Sem.run_bind, Sem.run_pure, Result.andThen_ok, List.map_toArray, List.map_cons, List.map_nil, hs, hx, hrun]
  exact hK _ _ h

/-! ### copy of whatever reads, into a row of the call's own -/
theorem run_copy_reads {P : Program} (W : World) (dT sT ty e t : TypeId) (hu : P.underlying dT = some (.slice e)) (hs : (P.info? e).map (·.size) = some 1)
    (g off dLen dCap : Nat) (B : Nat) (A : Option Addr) (n c : Nat) (cs : List Value) (cur : Array Value) (hg : W.heap[g]? = some (.cells cur t (0, 0))) (hr : Reads W B 1 A n cs)
    (hle : n ≤ dLen) (hfit : off + n ≤ cur.size) (h1 : ∀ v ∈ cs, v.oneCell' = true) :
    ∃ W', (Builtin.copy_ #[dT, sT] ty #[.slice (some ⟨g, off, none⟩) dLen dCap, .slice A n c]).run P W = .ok (.int .i64 (n : Int)) W' ∧
      W'.heap[g]? = some (.cells (cur.toList.take off ++ (cs ++ cur.toList.drop (off + n))).toArray t (0, 0)) ∧ Below g W W' ∧ W'.heap.size = W.heap.size := by
  have hl := hr.len
  by_cases h0 : n = 0
  · subst h0
    obtain rfl : cs = [] := List.eq_nil_of_length_eq_zero hl
    have hrun := run_copy_none (P := P) W dT sT ty e (some ⟨g, off, none⟩) A dLen dCap 0 c hu hs (by simp)
    exact ⟨W, hrun, by simpa using hg, Below.refl _ _, rfl⟩
  · obtain ⟨b, o, rfl, _, hc⟩ := hr.2 (by omega)
    have hrun := run_copy_row (P := P) W dT sT ty e g off dLen dCap ⟨b, o, none⟩ n c cur t cs hu hs hg (by rw [hl]; exact (Nat.min_eq_left hle).symm) (fun j v hv => by rw [addr_add]; exact hc j v hv) (by rw [hl]; exact hfit) h1
    rw [hl] at hrun
    exact ⟨_, hrun, by rw [← List.append_assoc]; exact setRow_heap W g _ _ t _ hg, below_setRow (Below.refl _ _) (Nat.le_refl _) _, size_setRow _ _ _⟩

/-! ### bytes -/
def bytes (l : List UInt8) : List Value := l.map fun c => .int .u8 (c.toNat : Int)
theorem bytes_one {l : List UInt8} : ∀ u ∈ bytes l, u.oneCell' = true := by
  intro u hu
  obtain ⟨c, _, rfl⟩ := List.mem_map.1 hu
  rfl
theorem bytes_len (l : List UInt8) : (bytes l).length = l.length := List.length_map ..
theorem bytes_at {l : List UInt8} {k : Nat} (h : k < l.length) : (bytes l)[k]? = some (.int .u8 (l[k].toNat : Int)) := by simp [bytes, h]
theorem bytes_take (l : List UInt8) (k : Nat) : (bytes l).take k = bytes (l.take k) := by simp [bytes, List.map_take]
theorem bytes_drop (l : List UInt8) (k : Nat) : (bytes l).drop k = bytes (l.drop k) := by simp [bytes, List.map_drop]
theorem bytes_nil : bytes [] = [] := rfl
theorem bytes_append (a b : List UInt8) : bytes (a ++ b) = bytes a ++ bytes b := by simp [bytes]

/-- bytes as numbers -/
def nums (l : List UInt8) : List Nat := l.map UInt8.toNat
theorem nums_len (l : List UInt8) : (nums l).length = l.length := List.length_map ..
theorem nums_lt (l : List UInt8) : ∀ c ∈ nums l, c < 256 := by
  intro c hc
  obtain ⟨x, _, rfl⟩ := List.mem_map.1 hc
  exact x.toNat_lt
theorem nums_take_succ (l : List UInt8) (k : Nat) (h : k < l.length) : (nums l).take (k + 1) = (nums l).take k ++ [l[k].toNat] := by
  rw [List.take_succ_eq_append_getElem (by rw [nums_len]; exact h)]
  simp [nums]
theorem nums_inj : ∀ {a b : List UInt8}, nums a = nums b → a = b
  | [], [], _ => rfl
  | [], _ :: _, h => by simp [nums] at h
  | _ :: _, [], h => by simp [nums] at h
  | x :: a, y :: b, h => by
    simp only [nums, List.map_cons, List.cons.injEq] at h
    rw [UInt8.toNat_inj.1 h.1, nums_inj (a := a) (b := b) h.2]
theorem nums_append (a b : List UInt8) : nums (a ++ b) = nums a ++ nums b := by simp [nums]

/-- THE SLICE VALUE '.slice A n c' READS AS THE BYTES l. -/
def RB (w : World) (A : Option Addr) (n : Nat) (l : List UInt8) : Prop := Reads w w.heap.size 1 A n (bytes l)
section
variable {w w' : World} {n : Nat} {A : Option Addr} {l : List UInt8}
theorem RB.len (h : RB w A n l) : l.length = n := by have := Reads.len h; rwa [bytes_len] at this
theorem RB.on (h : RB w A n l) (hb : Below w.heap.size w w') : RB w' A n l := Reads.on h hb
theorem RB.empty (w : World) (A : Option Addr) : RB w A 0 [] := Reads.empty ..
theorem RB.cell {k : Nat} (h : RB w A n l) (hk : k < l.length) : ∃ b off, A = some ⟨b, off, none⟩ ∧ b < w.heap.size ∧ w.cell? ⟨b, off + k, none⟩ = some (.int .u8 (l[k].toNat : Int)) :=
  Reads.cell h (by rw [← h.len]; exact hk) (bytes_at hk)
theorem RB.take (h : RB w A n l) (m : Nat) (hm : m ≤ n) : RB w A m (l.take m) := by
  have := Reads.take h m hm
  rw [Nat.mul_one, bytes_take] at this
  exact this
theorem RB.drop (h : RB w A n l) {k cap : Nat} (hk : k ≤ n) (hc : n ≤ cap) : RB w (if cap = k then A else A.map (·.add k)) (n - k) (l.drop k) := by
  have := Reads.drop h hk hc
  rw [Nat.mul_one, bytes_drop] at this
  exact this
theorem RB.new (w : World) (e : TypeId) (fr : Nat × Nat) (cs : Array Value) (l : List UInt8) (n : Nat) (hn : l.length = n) (h : ∀ j (hj : j < l.length), cs[j]? = some (.int .u8 (l[j].toNat : Int))) : RB (w.alloc (.cells cs e fr)) (some ⟨w.heap.size, 0, none⟩) n l := by
  have := Reads.new w e fr cs n 1 (bytes l) (by rw [bytes_len, Nat.mul_one, hn]) (fun j u hu => by
    have hj : j < l.length := by
      have := (List.getElem?_eq_some_iff.1 hu).1
      rwa [bytes_len] at this
    rw [bytes_at hj] at hu
    rw [← hu]
    exact h j hj)
  simpa [RB] using this
/-- bytes written out, in a block of their own -/
theorem RB.lit (w : World) (e : TypeId) {fr : Nat × Nat} (cs : Array Value) (l : List UInt8) (n : Nat) (hn : l.length = n) (h : cs.toList = bytes l) : RB (w.alloc (.cells cs e fr)) (some ⟨w.heap.size, 0, none⟩) n l :=
  RB.new w e _ cs l n hn fun j hj => by rw [← bytes_at hj, ← h, Array.getElem?_toList]
end
/-- one new cell -/
theorem Reads.one (w : World) (e : TypeId) (x : Value) : Reads (w.alloc (.cells #[x] e)) (w.heap.size + 1) 1 (some ⟨w.heap.size, 0, none⟩) 1 [x] :=
  Reads.new w e _ #[x] 1 1 [x] rfl fun j u h => by simpa using h
/-- a block that is known whole -/
theorem RB.block {w : World} {g : Nat} {e : TypeId} {fr : Nat × Nat} {l : List UInt8} {n : Nat} (h : w.heap[g]? = some (.cells (bytes l).toArray e fr)) (hn : l.length = n) : RB w (some ⟨g, 0, none⟩) n l :=
  ⟨by rw [bytes_len, hn, Nat.mul_one], fun _ => ⟨g, 0, rfl, (Array.getElem?_eq_some_iff.1 h).1, fun j u hu => by
    rw [Nat.zero_add, cell_of_row _ _ _ _ _ _ h]
    simpa using hu⟩⟩
/-- a row whose first cells are known -/
theorem RB.head {w : World} {g : Nat} {e : TypeId} {fr : Nat × Nat} {cs : Array Value} {l : List UInt8} {n : Nat} (h : w.heap[g]? = some (.cells cs e fr)) (ht : cs.toList.take n = bytes l) (hn : l.length = n) : RB w (some ⟨g, 0, none⟩) n l :=
  ⟨by rw [bytes_len, hn, Nat.mul_one], fun _ => ⟨g, 0, rfl, (Array.getElem?_eq_some_iff.1 h).1, fun j u hu => by
    rw [Nat.zero_add, cell_of_row _ _ _ _ _ _ h]
    rw [← ht, List.getElem?_take] at hu
    split at hu
    · simpa using hu
    · cases hu⟩⟩
theorem heap_at (w : World) (o : Obj) (n : Nat) (h : n = w.heap.size) : (w.alloc o).heap[n]? = some o := by rw [h]; exact heap_alloc_new w o
theorem below_then {w0 w w' : World} (h : Below w0.heap.size w0 w) (k : Below w.heap.size w w') : Below w0.heap.size w0 w' := h.trans (k.mono h.size)
theorem below_drewN (w : World) (q : Nat) : Below w.heap.size w (w.drewN q) := ⟨rfl, rfl, rfl, Nat.le_refl _, fun _ _ => rfl⟩
theorem below_alloc (w : World) (o : Obj) : Below w.heap.size w (w.alloc o) := (Below.refl _ w).alloc (Nat.le_refl _) o
theorem u8_of (k : Nat) : (Value.int .u8 ((UInt8.ofNat k).toNat : Int)) = .int .u8 ((k % 256 : Nat) : Int) := by
  simp

/-! ### strings -/
/-- the string of bytes -/
def str (l : List UInt8) : ByteArray := ⟨l.toArray⟩
theorem str_size (l : List UInt8) : (str l).size = l.length := by simp [str, ByteArray.size]
theorem str_inj {a b : List UInt8} (h : str a = str b) : a = b := by
  unfold str at h
  injection h with h
  simpa using h
theorem str_toList (l : List UInt8) : (str l).toList = l := ByteArray.toList_mk l
theorem str_beq (a b : List UInt8) : ((str a).toList == (str b).toList) = decide (a = b) := by
  rw [str_toList, str_toList]
  by_cases h : a = b <;> simp [h]
theorem run_str {P : Program} (W : World) (src dst e : TypeId) (A : Option Addr) (n c : Nat) (l : List UInt8) (h : RB W A n l) (hs : P.underlying src = some (.slice e)) (he : P.underlying e = some (.int .u8)) (hd : P.underlying dst = some .string) :
    (convert src dst (.slice A n c)).run P W = .ok (.string (str l)) W := by
  obtain rfl := h.len
  cases A with
  | none =>
    have h0 : l = [] := by
      cases l with
      | nil => rfl
      | cons x l =>
        obtain ⟨b, o, h1, _⟩ := h.2 (by simp)
        cases h1
    subst h0
    exact run_convert_bytes_nil W src e hs he _ _ dst hd
  | some a =>
    refine run_convert_bytes_back W src dst e a c l hs he hd fun j hj => ?_
    obtain ⟨b, o, h1, _, hc⟩ := h.cell hj
    injection h1 with h1
    subst h1
    rw [addr_add]
    exact hc
end Go.Proofs.Ytgliindhndcceaa
