/- Arguments that are rows of edits, or rows of such rows, opened. -/
import Derived.Test.YtgliindhndcceaaOpen
import Derived.Test.YtgliindhndcceaaMgInit
import Derived.Deep.Slices
namespace Go.Proofs.Ytgliindhndcceaa
open Go.ChangeShapes Go.WideShapes Go.ChangeAt Go.RowKit

section
variable {H : Type} {enc : TypeId × Value → H} {w : World} {base : Nat} {spare : Nat → Bool} {held : Bool}
theorem bytes_cell {fuel : Nat} {cs : List Value} {x : DataW H × List MemPlace} (h : DataW.trod enc Try.prog w base spare held fuel 23 cs = some x) :
    ∃ A n c l, cs = [.slice A n c] ∧ RB w A n l ∧ n ≤ c ∧ c ≤ maxLen := by
  rcases open_ints Try.underlying23 Try.underlying5 (by kernel_rfl) h with ⟨rfl, _⟩ | ⟨x, n, c', zs, rfl, _, hl, hm, hz, _, hcell, hwz⟩
  · exact ⟨none, 0, 0, [], rfl, Reads.empty .., Nat.le_refl _, Nat.zero_le _⟩
  · have hz' : n ≤ zs.length := by rw [hz]; split <;> omega
    have e : bytes ((zs.take n).map fun z => UInt8.ofNat z.toNat) = (zs.take n).map (Value.int .u8) := by
      unfold bytes
      rw [List.map_map]
      refine List.map_congr_left fun z hz => ?_
      have h1 := bounds_u8 (hwz z (List.mem_of_mem_take hz))
      simp only [Function.comp]
      rw [UInt8.toNat_ofNat']
      congr 1
      omega
    refine ⟨some x, n, c', (zs.take n).map fun z => UInt8.ofNat z.toNat, rfl, ?_, hl, hm⟩
    rw [RB, e]
    refine ⟨by simp; omega, fun hn => ?_⟩
    have h0 := hcell 0 (by omega)
    obtain ⟨b, off, spot⟩ := x
    have hspot : spot = none := by simpa [Addr.add] using World.cell?_spot h0
    subst hspot
    refine ⟨b, off, rfl, ?_, fun j u hu => ?_⟩
    · have := World.block_lt_of_cell? w _ h0
      rwa [addr_add] at this
    · rw [List.getElem?_map] at hu
      obtain ⟨z, hz1, rfl⟩ := Option.map_eq_some_iff.1 hu
      rw [List.getElem?_take] at hz1
      split at hz1
      · have hj : j < zs.length := (List.getElem?_eq_some_iff.1 hz1).1
        have := hcell j (by omega)
        rw [addr_add, List.getD_eq_getElem?_getD, hz1] at this
        exact this
      · cases hz1
theorem five_list {α : Type} {cs : List α} (h : cs.length = 5) : ∃ c0 c1 c2 c3 c4, cs = [c0, c1, c2, c3, c4] := by
  match cs, h with
  | [c0, c1, c2, c3, c4], _ => exact ⟨c0, c1, c2, c3, c4, rfl⟩
theorem edit_cell {fuel : Nat} {cs : List Value} {x : DataW H × List MemPlace} (h : DataW.trod enc Try.prog w base spare held fuel 48 cs = some x) :
    ∃ e : Ed, cs = e.cells ∧ e.Ok w w.heap.size := by
  obtain ⟨xs, n, _, _, hlen, hxl, hi⟩ := DataW.trod_struct Try.underlying48 h
  obtain ⟨c0, c1, c2, c3, c4, rfl⟩ := five_list (hlen.trans (by kernel_rfl))
  obtain ⟨y0, y1, y2, y3, y4, rfl⟩ := five_list (hxl.trans rfl)
  have h0 : DataW.trod enc Try.prog w base spare held n 23 [c0] = some y0 := hi 0 _ rfl
  have h1 : DataW.trod enc Try.prog w base spare held n 4 [c1] = some y1 := hi 1 _ rfl
  have h2 : DataW.trod enc Try.prog w base spare held n 23 [c2] = some y2 := hi 2 _ rfl
  have h3 : DataW.trod enc Try.prog w base spare held n 4 [c3] = some y3 := hi 3 _ rfl
  have h4 : DataW.trod enc Try.prog w base spare held n 2 [c4] = some y4 := hi 4 _ rfl
  obtain ⟨kA, kn, kc, key, e0, hk, hkc, hkm⟩ := bytes_cell h0
  obtain ⟨vA, vn, vc, val, e2, hv, hvc, hvm⟩ := bytes_cell h2
  obtain ⟨p, e1, _⟩ := DataW.trod_bool Try.underlying4 h1
  obtain ⟨i, e3, _⟩ := DataW.trod_bool Try.underlying4 h3
  obtain ⟨m, e4, _⟩ := DataW.trod_int Try.underlying2 h4
  injection e0 with e0
  injection e1 with e1
  injection e2 with e2
  injection e3 with e3
  injection e4 with e4
  subst e0 e1 e2 e3 e4
  exact ⟨⟨kA, kn, kc, key, p, vA, vn, vc, val, i, m⟩, rfl, hk, hv, hkc, hkm, hvc, hvm⟩
instance : Inhabited Ed := ⟨⟨none, 0, 0, [], false, none, 0, 0, [], false, 0⟩⟩
instance : Inhabited Rw := ⟨⟨none, 0, 0, []⟩⟩
theorem cellsE_range (E : Nat → Ed) (n j : Nat) (u : Value) (h : (cellsE ((List.range n).map E))[j]? = some u) : j / 5 < n ∧ (E (j / 5)).cells[j % 5]? = some u := by
  have hj : j < n * 5 := by
    have := (List.getElem?_eq_some_iff.1 h).1
    rw [cellsE_len] at this
    simpa using this
  have hd : j / 5 < n := by omega
  refine ⟨hd, ?_⟩
  have hk : j / 5 < ((List.range n).map E).length := by simpa using hd
  have := cellsE_at hk (j % 5) (by omega)
  rw [show j / 5 * 5 + j % 5 = j by omega, h] at this
  rw [this]
  simp
theorem edits_cell {fuel : Nat} {cs : List Value} {x : DataW H × List MemPlace} (h : DataW.trod enc Try.prog w base spare held fuel 22 cs = some x) :
    ∃ A n c l, cs = [.slice A n c] ∧ Row w w.heap.size A n c l := by
  rcases Go.Deep.open_slice Try.underlying22 h with ⟨rfl, _⟩ | ⟨a, len, cap, m, k, D, Pl, rfl, _, hl, hm, hmm, _, hx⟩
  · exact ⟨none, 0, 0, [], rfl, Row.nil ..⟩
  · have hlm : len ≤ m := by rw [hmm]; split <;> omega
    have h5 : Try.prog.cellsOf 48 = 5 := by kernel_rfl
    rw [h5] at hx
    obtain ⟨E, hE⟩ := Go.Deep.choose_lt (α := Ed) (p := fun i e => e.Ok w w.heap.size ∧ ∀ j, j < 5 → w.cell? ((a.add (i * 5)).add j) = e.cells[j]?) (fun i (hi : i < len) => by
      obtain ⟨cs', h1, h2⟩ := hx i (by omega)
      obtain ⟨_, _, h3⟩ := World.cells?_some h1
      obtain ⟨e, rfl, ho⟩ := edit_cell h2
      exact ⟨e, ho, h3⟩)
    refine ⟨some a, len, cap, (List.range len).map E, rfl, ⟨?_, fun e he => ?_, hl, hm⟩⟩
    · refine ⟨by rw [cellsE_len]; simp, fun hn => ?_⟩
      have h0 := (hE 0 hn).2 0 (by omega)
      obtain ⟨b, off, spot⟩ := a
      have h0' : w.cell? ⟨b, off, spot⟩ = some (.slice (E 0).kA (E 0).kn (E 0).kc) := by simpa [Addr.add, Ed.cells] using h0
      have hspot : spot = none := World.cell?_spot h0'
      subst hspot
      refine ⟨b, off, rfl, World.block_lt_of_cell? w _ h0', fun j u hu => ?_⟩
      obtain ⟨hd, hc⟩ := cellsE_range E len j u hu
      have := (hE _ hd).2 (j % 5) (by omega)
      rw [addr_add, addr_add, hc] at this
      rw [show off + j / 5 * 5 + j % 5 = off + j by omega] at this
      exact this
    · obtain ⟨i, hi, rfl⟩ := List.mem_map.1 he
      exact (hE i (by simpa using hi)).1
theorem rows_cell {fuel : Nat} {cs : List Value} {x : DataW H × List MemPlace} (h : DataW.trod enc Try.prog w base spare held fuel 35 cs = some x) :
    ∃ A n c L, cs = [.slice A n c] ∧ Rows2 w w.heap.size A n c L := by
  rcases Go.Deep.open_slice1 Try.underlying35 (by kernel_rfl) h with ⟨rfl, _⟩ | ⟨a, len, cap, m, k, V, D, Pl, rfl, _, hl, hm, hmm, _, hx⟩
  · exact ⟨none, 0, 0, [], rfl, Reads.empty .., fun _ h => (by cases h), Nat.le_refl _, Nat.zero_le _⟩
  · have hlm : len ≤ m := by rw [hmm]; split <;> omega
    obtain ⟨R, hR⟩ := Go.Deep.choose_lt (α := Rw) (p := fun i r => Row w w.heap.size r.A r.n r.c r.row ∧ w.cell? (a.add i) = some r.val) (fun i (hi : i < len) => by
      obtain ⟨h1, h2⟩ := hx i (by omega)
      obtain ⟨A, n, c, l, h3, h4⟩ := edits_cell h2
      injection h3 with h3
      exact ⟨⟨A, n, c, l⟩, h4, by rw [h1, h3]; rfl⟩)
    refine ⟨some a, len, cap, (List.range len).map R, rfl, ⟨?_, fun r hr => ?_, hl, hm⟩⟩
    · refine ⟨by simp, fun hn => ?_⟩
      have h0 := (hR 0 hn).2
      obtain ⟨b, off, spot⟩ := a
      have h0' : w.cell? ⟨b, off, spot⟩ = some (R 0).val := by simpa [Addr.add] using h0
      have hspot : spot = none := World.cell?_spot h0'
      subst hspot
      refine ⟨b, off, rfl, World.block_lt_of_cell? w _ h0', fun j u hu => ?_⟩
      rw [List.map_map, List.getElem?_map] at hu
      obtain ⟨i, hi, rfl⟩ := Option.map_eq_some_iff.1 hu
      obtain ⟨hj, rfl⟩ := List.getElem?_eq_some_iff.1 hi
      have := (hR j (by simpa using hj)).2
      rw [addr_add] at this
      simpa using this
    · obtain ⟨i, hi, rfl⟩ := List.mem_map.1 hr
      exact (hR i (by simpa using hi)).1
theorem arg_edits {t : TypeId} {v : Value} {d : DataW H} {p : List MemPlace} {r : Reach} {b0 : Nat} (ht : t = 22) (hv : Value.okWide Try.prog w r b0 t v) (h : DataW.Trod enc Try.prog w base spare held t v d p) :
    ∃ A n c l, v = .slice A n c ∧ Row w w.heap.size A n c l := by
  subst ht
  obtain ⟨A, n, c, rfl⟩ := okWide_slice Try.underlying22 hv
  obtain ⟨fuel, hf⟩ := h
  obtain ⟨A', n', c', l, he, hr⟩ := edits_cell hf
  simp [Value.cells] at he
  obtain ⟨rfl, rfl, rfl⟩ := he
  exact ⟨A, n, c, l, rfl, hr⟩
theorem arg_rows {t : TypeId} {v : Value} {d : DataW H} {p : List MemPlace} {r : Reach} {b0 : Nat} (ht : t = 35) (hv : Value.okWide Try.prog w r b0 t v) (h : DataW.Trod enc Try.prog w base spare held t v d p) :
    ∃ A n c L, v = .slice A n c ∧ Rows2 w w.heap.size A n c L := by
  subst ht
  obtain ⟨A, n, c, rfl⟩ := okWide_slice Try.underlying35 hv
  obtain ⟨fuel, hf⟩ := h
  obtain ⟨A', n', c', L, he, hr⟩ := rows_cell hf
  simp [Value.cells] at he
  obtain ⟨rfl, rfl, rfl⟩ := he
  exact ⟨A, n, c, L, rfl, hr⟩
end
end Go.Proofs.Ytgliindhndcceaa
