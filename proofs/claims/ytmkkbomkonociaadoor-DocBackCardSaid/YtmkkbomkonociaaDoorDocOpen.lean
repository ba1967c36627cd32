/- Arguments of the types Rev and Info, opened. -/
import Derived.Test.YtmkkbomkonociaaDoorOpen
import Derived.Test.YtmkkbomkonociaaDoorDocCode
import Derived.Lib.SmallJoins
namespace Go.Proofs.YtmkkbomkonociaaDoor
open Go.RowKit Go.WideShapes
section
variable {H : Type} {enc : TypeId × Value → H} {w : World} {base : Nat} {spare : Nat → Bool} {held : Bool}
theorem u32_of {fuel : Nat} {v : Value} {y : DataW H × List MemPlace} (h : DataW.trod enc Tryd.prog w base spare held fuel 22 [v] = some y) : ∃ x : Nat, x < 4294967296 ∧ v = .int .u32 (x : Int) := by
  obtain ⟨a, e0, _, wa⟩ := DataW.trod_int Tryd.underlying22 h
  have h1 := bounds_u32 wa
  injection e0 with e0
  exact ⟨a.toNat, by omega, by rw [e0]; congr 1; omega⟩
theorem u64_of {fuel : Nat} {v : Value} {y : DataW H × List MemPlace} (h : DataW.trod enc Tryd.prog w base spare held fuel 34 [v] = some y) : ∃ x : Nat, x < 18446744073709551616 ∧ v = .int .u64 (x : Int) := by
  obtain ⟨a, e0, _, wa⟩ := DataW.trod_int Tryd.underlying34 h
  have h1 := bounds_u64 wa
  injection e0 with e0
  exact ⟨a.toNat, by omega, by rw [e0]; congr 1; omega⟩
theorem int_of {fuel : Nat} {v : Value} {y : DataW H × List MemPlace} (h : DataW.trod enc Tryd.prog w base spare held fuel 3 [v] = some y) : ∃ x : Int, (-9223372036854775808 ≤ x ∧ x ≤ 9223372036854775807) ∧ v = .int .i64 x := by
  obtain ⟨a, e0, _, wa⟩ := DataW.trod_int Tryd.underlying3 h
  injection e0 with e0
  exact ⟨a, bounds_i64 wa, e0⟩
theorem bool_of {fuel : Nat} {v : Value} {y : DataW H × List MemPlace} (h : DataW.trod enc Tryd.prog w base spare held fuel 4 [v] = some y) : ∃ x : Bool, v = .bool x := by
  obtain ⟨a, e0, _⟩ := DataW.trod_bool Tryd.underlying4 h
  injection e0 with e0
  exact ⟨a, e0⟩
theorem arg_rev {r : Reach} {b0 : Nat} {v : Value} {d : DataW H} {p : List MemPlace} (hv : Value.okWide Tryd.prog w r b0 24 v) (h : DataW.Trod enc Tryd.prog w base spare held 24 v d p) :
    ∃ g m : Nat, v = .agg #[.int .u32 (g : Int), .int .u32 (m : Int)] ∧ g < 4294967296 ∧ m < 4294967296 := by
  obtain ⟨v0, v1, y0, y1, n, rfl, _, _, h0, h1⟩ := Joins.open_agg2 Tryd.underlying24 (by kernel_rfl) (by kernel_rfl) hv h
  obtain ⟨g, hg, rfl⟩ := u32_of h0
  obtain ⟨m, hm, rfl⟩ := u32_of h1
  exact ⟨g, m, rfl, hg, hm⟩
theorem array5 {α : Type} {cs : Array α} (h : cs.size = 5) : ∃ c0 c1 c2 c3 c4, cs = #[c0, c1, c2, c3, c4] := by
  obtain ⟨l⟩ := cs
  match l, h with
  | [c0, c1, c2, c3, c4], _ => exact ⟨c0, c1, c2, c3, c4, rfl⟩
theorem arg_info {r : Reach} {b0 : Nat} {v : Value} {d : DataW H} {p : List MemPlace} (hv : Value.okWide Tryd.prog w r b0 36 v) (h : DataW.Trod enc Tryd.prog w base spare held 36 v d p) :
    ∃ i : Inf, v = .agg i.cells ∧ i.Ok := by
  obtain ⟨cs, rfl, hsz⟩ := okWide_struct Tryd.underlying36 hv
  obtain ⟨c0, c1, c2, c3, c4, rfl⟩ := array5 (hsz.trans (by kernel_rfl))
  obtain ⟨fuel, hf⟩ := h
  obtain ⟨y0, y1, y2, y3, n, _, _, h0, h1, h2, h3⟩ := Joins.trod_struct4 Tryd.underlying36 hf
  have h0' : DataW.trod enc Tryd.prog w base spare held n 24 [c0, c1] = some y0 := h0
  have h1' : DataW.trod enc Tryd.prog w base spare held n 34 [c2] = some y1 := h1
  have h2' : DataW.trod enc Tryd.prog w base spare held n 4 [c3] = some y2 := h2
  have h3' : DataW.trod enc Tryd.prog w base spare held n 3 [c4] = some y3 := h3
  obtain ⟨z0, z1, n', _, _, g0, g1⟩ := Go.ChangeShapes.trod_struct2 Tryd.underlying24 h0'
  have g0' : DataW.trod enc Tryd.prog w base spare held n' 22 [c0] = some z0 := g0
  have g1' : DataW.trod enc Tryd.prog w base spare held n' 22 [c1] = some z1 := g1
  obtain ⟨a, ha, rfl⟩ := u32_of g0'
  obtain ⟨b, hb, rfl⟩ := u32_of g1'
  obtain ⟨q, hq, rfl⟩ := u64_of h1'
  obtain ⟨d', rfl⟩ := bool_of h2'
  obtain ⟨x, hx, rfl⟩ := int_of h3'
  exact ⟨⟨a, b, q, d', x⟩, rfl, ⟨ha, hb, hq, hx.1, hx.2⟩⟩
end
end Go.Proofs.YtmkkbomkonociaaDoor
