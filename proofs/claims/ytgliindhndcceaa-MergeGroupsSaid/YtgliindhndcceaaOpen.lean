/- How the arguments of a law are opened for its walk. No program in sight. -/
import Derived.Test.YtgliindhndcceaaKit
import Derived.ProofKit
import Derived.OpenShut
import Derived.ShutString
import Derived.ChangeOld
import Derived.Lib.SmallJoins
namespace Go.Proofs.Ytgliindhndcceaa
open Go.ChangeShapes Go.WideShapes Go.ChangeAt Go.RowKit
open Go.ChangeMaps (open_string shut_string)

/-- What a walk is told of a slice of bytes that came in. -/
def Arg (w : World) (A : Option Addr) (n c : Nat) (l : List UInt8) : Prop := RB w A n l ∧ n ≤ c ∧ c ≤ maxLen
/-- What a walk is told of a slice of integers that came in. -/
def ArgInts (k : IntKind) (w : World) (A : Option Addr) (n c : Nat) (zs : List Int) : Prop := Reads w w.heap.size 1 A n (zs.map (Value.int k)) ∧ n ≤ c ∧ c ≤ maxLen ∧ ∀ z ∈ zs, (Lit.int k z).wf = true

section
variable {H : Type} {enc : TypeId × Value → H} {P : Program} {w : World} {base : Nat} {spare : Nat → Bool} {held : Bool}

theorem arg_ints {k : IntKind} {r : Reach} {b0 : Nat} {t e : TypeId} {v : Value} {d : DataW H} {p : List MemPlace} (ht : P.underlying t = some (.slice e)) (he : P.underlying e = some (.int k)) (hC : P.cellsOf e = 1)
    (hv : Value.okWide P w r b0 t v) (h : DataW.Trod enc P w base spare held t v d p) : ∃ A n c zs, v = .slice A n c ∧ ArgInts k w A n c zs := by
  obtain ⟨A, n, c, rfl⟩ := okWide_slice ht hv
  obtain ⟨fuel, hf⟩ := h
  rcases open_ints ht he hC hf with ⟨hcs, _⟩ | ⟨x, l, c', zs, hcs, _, hl, hm, hz, _, hcell, hwz⟩
  · simp [Value.cells] at hcs
    obtain ⟨rfl, rfl, rfl⟩ := hcs
    exact ⟨_, _, _, [], rfl, Reads.empty _ _ _ _, Nat.le_refl _, by simp [maxLen], by simp⟩
  · simp [Value.cells] at hcs
    obtain ⟨rfl, rfl, rfl⟩ := hcs
    have hz' : n ≤ zs.length := by rw [hz]; split <;> omega
    refine ⟨_, _, _, zs.take n, rfl, ⟨by simp; omega, fun hn => ?_⟩, hl, hm, fun z hzz => hwz z (List.mem_of_mem_take hzz)⟩
    have h0 := hcell 0 (by omega)
    obtain ⟨b, off, spot⟩ := x
    have hspot : spot = none := by simpa [Addr.add] using World.cell?_spot h0
    subst hspot
    refine ⟨b, off, rfl, ?_, fun j u hu => ?_⟩
    · have := World.block_lt_of_cell? w _ h0
      rwa [addr_add] at this
    · rw [List.getElem?_map] at hu
      obtain ⟨z, hz1, rfl⟩ := Option.map_eq_some_iff.1 hu
      rw [List.getElem?_take] at hz1
      split at hz1
      · have hj : j < zs.length := (List.getElem?_eq_some_iff.1 hz1).1
        have := hcell j (by omega)
        rw [addr_add, List.getD_eq_getElem?_getD, hz1] at this
        exact this
      · cases hz1

theorem arg_bytes {r : Reach} {b0 : Nat} {t e : TypeId} {v : Value} {d : DataW H} {p : List MemPlace} (ht : P.underlying t = some (.slice e)) (he : P.underlying e = some (.int .u8)) (hC : P.cellsOf e = 1)
    (hv : Value.okWide P w r b0 t v) (h : DataW.Trod enc P w base spare held t v d p) : ∃ A n c l, v = .slice A n c ∧ Arg w A n c l := by
  obtain ⟨A, n, c, zs, rfl, hr, hc, hm, hw⟩ := arg_ints ht he hC hv h
  refine ⟨A, n, c, zs.map fun z => UInt8.ofNat z.toNat, rfl, ?_, hc, hm⟩
  have e : bytes (zs.map fun z => UInt8.ofNat z.toNat) = zs.map (Value.int .u8) := by
    unfold bytes
    rw [List.map_map]
    refine List.map_congr_left fun z hz => ?_
    have h1 := bounds_u8 (hw z hz)
    simp only [Function.comp]
    rw [UInt8.toNat_ofNat']
    congr 1
    omega
  rw [RB, e]
  exact hr

theorem okWide_array {n : Nat} {r : Reach} {b0 : Nat} {t e : TypeId} {v : Value} (ht : P.underlying t = some (.array n e)) (h : Value.okWide P w r b0 t v) : ∃ cs, v = .agg cs ∧ cs.size = P.cellsOf t := by
  simp only [Value.okWide, ht] at h
  obtain ⟨cs, h1, h2, _⟩ := h
  exact ⟨cs, h1, h2⟩
theorem byte_of {e : TypeId} {fuel : Nat} {v : Value} {y : DataW H × List MemPlace} (he : P.underlying e = some (.int .u8)) (h : DataW.trod enc P w base spare held fuel e [v] = some y) : ∃ x : UInt8, v = .int .u8 (x.toNat : Int) := by
  obtain ⟨a, e0, _, wa⟩ := DataW.trod_int he h
  have h1 := bounds_u8 wa
  injection e0 with e0
  refine ⟨UInt8.ofNat a.toNat, ?_⟩
  rw [e0, UInt8.toNat_ofNat']
  congr 1
  omega
theorem arg_four {r : Reach} {b0 : Nat} {t e : TypeId} {v : Value} {d : DataW H} {p : List MemPlace} (ht : P.underlying t = some (.array 4 e)) (he : P.underlying e = some (.int .u8)) (hC : P.cellsOf t = 4) (hCe : P.cellsOf e = 1)
    (hv : Value.okWide P w r b0 t v) (h : DataW.Trod enc P w base spare held t v d p) : ∃ x0 x1 x2 x3 : UInt8, v = .agg #[.int .u8 (x0.toNat : Int), .int .u8 (x1.toNat : Int), .int .u8 (x2.toNat : Int), .int .u8 (x3.toNat : Int)] := by
  obtain ⟨cs, rfl, hsz⟩ := okWide_array ht hv
  obtain ⟨c0, c1, c2, c3, rfl⟩ := Joins.array4 (hsz.trans hC)
  obtain ⟨fuel, hf⟩ := h
  obtain ⟨xs, m, _, _, _, hxl, hi⟩ := DataW.trod_array ht hf
  have g : ∀ i c, i < 4 → (((#[c0, c1, c2, c3] : Array Value).toList.drop i).take 1) = [c] → ∃ x : UInt8, c = .int .u8 (x.toNat : Int) := fun i c hi4 hc => by
    have h1 := hi i hi4
    rw [hCe, Nat.mul_one] at h1
    simp only [Value.cells] at h1
    rw [hc, List.getElem?_eq_getElem (by omega)] at h1
    exact byte_of he h1
  obtain ⟨x0, h0⟩ := g 0 c0 (by omega) rfl
  obtain ⟨x1, h1⟩ := g 1 c1 (by omega) rfl
  obtain ⟨x2, h2⟩ := g 2 c2 (by omega) rfl
  obtain ⟨x3, h3⟩ := g 3 c3 (by omega) rfl
  exact ⟨x0, x1, x2, x3, by rw [h0, h1, h2, h3]⟩

theorem trod_lt' {t : TypeId} {v : Value} {d : DataW H} {p : List MemPlace} (h : DataW.Trod enc P w base spare held t v d p) : ∀ x ∈ p, x.block < w.heap.size := by
  obtain ⟨m, hm⟩ := h
  exact DataW.trod_lt m _ _ _ hm
end

theorem wf_u32 {a : Int} (h : (Lit.int .u32 a).wf = true) : 0 ≤ a ∧ a < 4294967296 := by have := bounds_u32 h; omega
theorem wf_i64 {a : Int} (h : (Lit.int .i64 a).wf = true) : -9223372036854775808 ≤ a ∧ a ≤ 9223372036854775807 := bounds_i64 h
end Go.Proofs.Ytgliindhndcceaa
