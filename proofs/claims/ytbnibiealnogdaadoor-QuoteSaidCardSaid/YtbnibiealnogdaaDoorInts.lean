/- A slice that reads as a list of ints. -/
import Derived.Test.YtbnibiealnogdaaDoorSlices
namespace Go.Proofs.YtbnibiealnogdaaDoor
open Go.RowKit

def ints (zs : List Int) : List Value := zs.map (Value.int .i64)
theorem ints_one {l : List Int} : ∀ u ∈ ints l, u.oneCell' = true := by
  intro u hu
  obtain ⟨c, _, rfl⟩ := List.mem_map.1 hu
  rfl
theorem ints_len (l : List Int) : (ints l).length = l.length := List.length_map ..
theorem ints_at {l : List Int} {k : Nat} (h : k < l.length) : (ints l)[k]? = some (.int .i64 l[k]) := by simp [ints, h]
theorem ints_take (l : List Int) (k : Nat) : (ints l).take k = ints (l.take k) := by simp [ints, List.map_take]
theorem ints_append (a b : List Int) : ints (a ++ b) = ints a ++ ints b := by simp [ints]
/-- THE SLICE VALUE '.slice A n c' READS AS THE INTS l. -/
def RI (w : World) (A : Option Addr) (n : Nat) (l : List Int) : Prop := Reads w w.heap.size 1 A n (ints l)
section
variable {w w' : World} {n : Nat} {A : Option Addr} {l : List Int}
theorem RI.len (h : RI w A n l) : l.length = n := by have := Reads.len h; rwa [ints_len] at this
theorem RI.on (h : RI w A n l) (hb : Below w.heap.size w w') : RI w' A n l := Reads.on h hb
theorem RI.empty (w : World) (A : Option Addr) : RI w A 0 [] := Reads.empty ..
theorem RI.cell {k : Nat} (h : RI w A n l) (hk : k < l.length) : ∃ b off, A = some ⟨b, off, none⟩ ∧ b < w.heap.size ∧ w.cell? ⟨b, off + k, none⟩ = some (.int .i64 l[k]) :=
  Reads.cell h (by rw [← h.len]; exact hk) (ints_at hk)
theorem RI.take (h : RI w A n l) (m : Nat) (hm : m ≤ n) : RI w A m (l.take m) := by
  have := Reads.take h m hm
  rw [Nat.mul_one, ints_take] at this
  exact this
theorem RI.lit (w : World) (e : TypeId) {fr : Nat × Nat} (cs : Array Value) (l : List Int) (n : Nat) (hn : l.length = n) (h : cs.toList = ints l) : RI (w.alloc (.cells cs e fr)) (some ⟨w.heap.size, 0, none⟩) n l := by
  have := Reads.new w e fr cs n 1 (ints l) (by rw [ints_len, Nat.mul_one, hn]) (fun j u hu => by rw [← hu, ← h, Array.getElem?_toList])
  simpa [RI] using this
end
theorem i64_info : (Tryd.prog.info? 3).map (fun i => (i.zero, i.size, i.bytes)) = some (some (.int .i64 0), 1, 8) := by kernel_rfl
end Go.Proofs.YtbnibiealnogdaaDoor
