/- The walks of utf's size, Size, forms, sized, next, Next. -/
import Derived.Test.YtbnibiealnogdaaDoorCut
import Derived.Test.YtbnibiealnogdaaDoorUtfMath
import Derived.Test.YtbnibiealnogdaaDoorDag
import Derived.Test.YtbnibiealnogdaaDoorCells
namespace Go.Proofs.YtbnibiealnogdaaDoor
open Go.RowKit

/-- the package's variable none holds zeros -/
def Gl (w : World) : Prop := w.cell? ⟨0, 0, none⟩ = some (.int .i64 0) ∧ w.cell? ⟨0, 1, none⟩ = some (.int .i64 0)
theorem Gl.on {w w' : World} (h : Gl w) (hb : Below w.heap.size w w') : Gl w' := ⟨keep_cell hb h.1, keep_cell hb h.2⟩

/-- a number's size, the cases told apart -/
theorem size_any (p : Int) (w : World) : Calls Tryd.prog 43 #[.int .i64 p] w fun e w' => e = .returned (.int .i64 (Utf.sz p : Nat)) ∧ w' = w := by
  have hz : Utf.sz p = if Utf.isCp p then (if p < 128 then 1 else if p < 2048 then 2 else if p < 65536 then 3 else 4) else 0 := rfl
  have hc := Utf.isCp_iff (p := p)
  by_cases h0 : p < 0
  · rw [if_neg (fun h => by have := hc.1 h; omega)] at hz
    have HZ := hide hz
    clear hz hc
    go_enter Tryd.func43, Tryd.ntmps43
    go_wp2
    go_ret
    exact ⟨by rw [HZ.out]; rfl, rfl⟩
  · by_cases h1 : 1114111 < p
    · rw [if_neg (fun h => by have := hc.1 h; omega)] at hz
      have HZ := hide hz
      clear hz hc
      go_enter Tryd.func43, Tryd.ntmps43
      go_wp2
      go_ret
      exact ⟨by rw [HZ.out]; rfl, rfl⟩
    · by_cases h2 : 55296 ≤ p ∧ p ≤ 57343
      · rw [if_neg (fun h => by have := hc.1 h; omega)] at hz
        obtain ⟨h3, h4⟩ := h2
        have HZ := hide hz
        clear hz hc
        go_enter Tryd.func43, Tryd.ntmps43
        go_wp2
        go_ret
        exact ⟨by rw [HZ.out]; rfl, rfl⟩
      · rw [if_pos (hc.2 ⟨by omega, by omega, h2⟩)] at hz
        clear hc
        by_cases h3 : p < 128
        · rw [if_pos h3] at hz
          have HZ := hide hz
          clear hz h2
          go_enter Tryd.func43, Tryd.ntmps43
          go_wp2
          go_ret
          exact ⟨by rw [HZ.out]; rfl, rfl⟩
        · rw [if_neg h3] at hz
          by_cases h4 : p < 2048
          · rw [if_pos h4] at hz
            have HZ := hide hz
            clear hz h2
            go_enter Tryd.func43, Tryd.ntmps43
            go_wp2
            go_ret
            exact ⟨by rw [HZ.out]; rfl, rfl⟩
          · rw [if_neg h4] at hz
            by_cases h5 : p < 65536
            · rw [if_pos h5] at hz
              have HZ := hide hz
              by_cases h6 : p < 55296
              · clear hz h2
                go_enter Tryd.func43, Tryd.ntmps43
                go_wp2
                go_ret
                exact ⟨by rw [HZ.out]; rfl, rfl⟩
              · have h7 : 57343 < p := by omega
                clear hz h2
                go_enter Tryd.func43, Tryd.ntmps43
                go_wp2
                go_ret
                exact ⟨by rw [HZ.out]; rfl, rfl⟩
            · rw [if_neg h5] at hz
              have HZ := hide hz
              clear hz h2
              go_enter Tryd.func43, Tryd.ntmps43
              go_wp2
              go_ret
              exact ⟨by rw [HZ.out]; rfl, rfl⟩
theorem Size_any (p : Int) (w : World) : Calls Tryd.prog 25 #[.int .i64 p] w fun e w' => e = .returned (.int .i64 (Utf.sz p : Nat)) ∧ w' = w := by
  have hmf : ∀ (fn : Fn) (first cap : Array Value) (w : World), (Instr.makeFunc fn first cap).run Tryd.prog w = .ok (.func fn first cap) w := fun _ _ _ _ => rfl
  go_enter Tryd.func25, Tryd.ntmps25
  go_wp2_with fail
  refine Calls.mono (size_any p w) ?_
  rintro e w1 ⟨rfl, rfl⟩
  go_wp2_with fail
  go_ret
  exact ⟨rfl, rfl⟩
/-- the forms, laid out -/
def formsV : Value := .agg #[.int .i64 0, .int .i64 0, .int .i64 7, .int .i64 0, .int .i64 5, .int .i64 192, .int .i64 4, .int .i64 224, .int .i64 3, .int .i64 240]
theorem forms_any (w : World) : Calls Tryd.prog 64 #[] w fun e w' => e = .returned formsV ∧ Below w.heap.size w w' := by
  go_enter Tryd.func64, Tryd.ntmps64
  go_wp2_with fail
  exact bodyPost_ret (v := formsV) (by simp [results, Tryd.results64, go_sem, formsV]) rfl ⟨rfl, below_alloc _ _⟩
end Go.Proofs.YtbnibiealnogdaaDoor
