/- Walks of the reader of numerals: sees, takes. -/
import Derived.Test.YtciakpfnmkoghaaNumState
import Derived.Test.YtciakpfnmkoghaaNumPrint
namespace Go.Proofs.Ytciakpfnmkoghaa
open Go.RowKit
open Num (St isAt)

/-- is the size more than 64 bits? -/
def ov (V : Nat) : Bool := decide (18446744073709551616 ≤ V)
/-- the reader's block -/
def rdObj (A : Option Addr) (n c : Nat) (st : St) : Obj := .cells #[.int .i64 (st.at_ : Int), .slice A n c, .bool st.minus, .int .u64 ((st.V % 18446744073709551616 : Nat) : Int), .bool (ov st.V), .bool st.part] 50
/-- THE READER LIES IN BLOCK g, ITS STATE IS st, ITS BYTES ARE l. -/
structure Rd (w : World) (g : Nat) (A : Option Addr) (n c : Nat) (l : List UInt8) (st : St) : Prop where
  obj : w.heap[g]? = some (rdObj A n c st)
  reads : Reads w g 1 A n (bytes l)
  size : n ≤ 1048576
  cap : n ≤ c
  place : st.at_ ≤ n

section
variable {w w' : World} {g : Nat} {A : Option Addr} {n c : Nat} {l : List UInt8} {st : St}
theorem Rd.len (h : Rd w g A n c l st) : l.length = n := by have := h.reads.len; rwa [bytes_len] at this
theorem Rd.lt (h : Rd w g A n c l st) : g < w.heap.size := (Array.getElem?_eq_some_iff.1 h.obj).1
theorem Rd.at0 (h : Rd w g A n c l st) : w.cell? ⟨g, 0, none⟩ = some (.int .i64 (st.at_ : Int)) := cell_of_row _ _ _ _ _ _ h.obj
theorem Rd.at1 (h : Rd w g A n c l st) : w.cell? ⟨g, 1, none⟩ = some (.slice A n c) := cell_of_row _ _ _ _ _ _ h.obj
theorem Rd.at2 (h : Rd w g A n c l st) : w.cell? ⟨g, 2, none⟩ = some (.bool st.minus) := cell_of_row _ _ _ _ _ _ h.obj
theorem Rd.at3 (h : Rd w g A n c l st) : w.cell? ⟨g, 3, none⟩ = some (.int .u64 ((st.V % 18446744073709551616 : Nat) : Int)) := cell_of_row _ _ _ _ _ _ h.obj
theorem Rd.at4 (h : Rd w g A n c l st) : w.cell? ⟨g, 4, none⟩ = some (.bool (ov st.V)) := cell_of_row _ _ _ _ _ _ h.obj
theorem Rd.at5 (h : Rd w g A n c l st) : w.cell? ⟨g, 5, none⟩ = some (.bool st.part) := cell_of_row _ _ _ _ _ _ h.obj
theorem Rd.free (h : Rd w g A n c l st) (k : Nat) : w.frozen? ⟨g, k, none⟩ = false := frozen_of_row _ _ _ _ _ h.obj
theorem Rd.byte (h : Rd w g A n c l st) {k : Nat} (hk : k < l.length) : ∃ b off, A = some ⟨b, off, none⟩ ∧ b < g ∧ w.cell? ⟨b, off + k, none⟩ = some (.int .u8 (l[k].toNat : Int)) :=
  Reads.cell h.reads (by rw [← h.len]; exact hk) (bytes_at hk)
theorem Rd.drewN (h : Rd w g A n c l st) (q : Nat) : Rd (w.drewN q) g A n c l st := ⟨h.obj, h.reads, h.size, h.cap, h.place⟩
theorem Rd.drew (h : Rd w g A n c l st) : Rd w.drew g A n c l st := ⟨h.obj, h.reads, h.size, h.cap, h.place⟩
theorem grown_drewN (w : World) (q : Nat) (row : Option Nat) : w.grownBy (w.drewN q) row := ⟨rfl, rfl, rfl, Nat.le_refl _, fun _ _ _ => rfl⟩
theorem grown_set (w : World) (g k : Nat) (v : Value) : w.grownBy (w.setCell ⟨g, k, none⟩ v) (some g) :=
  ⟨rfl, rfl, rfl, by simp [World.setCell], fun i _ hne => by
    simp only [World.setCell, Array.getElem?_modify]
    rw [if_neg (fun e => hne (by rw [e]))]⟩
theorem heap_set (w : World) (g k : Nat) (cs : Array Value) (t : TypeId) (fr : Nat × Nat) (v : Value) (h : w.heap[g]? = some (.cells cs t fr)) : (w.setCell ⟨g, k, none⟩ v).heap[g]? = some (.cells (cs.setIfInBounds k v) t fr) := by
  simp [World.setCell, Array.getElem?_modify, h]
theorem Rd.set (h : Rd w g A n c l st) (k : Nat) (v : Value) (st' : St) (hp : st'.at_ ≤ n) (he : rdObj A n c st' = match rdObj A n c st with | .cells cs t fr => .cells (cs.setIfInBounds k v) t fr | o => o) : Rd (w.setCell ⟨g, k, none⟩ v) g A n c l st' :=
  ⟨by rw [he]; exact heap_set _ _ _ _ _ _ _ h.obj, h.reads.setCell (Nat.le_refl _) _, h.size, h.cap, hp⟩
/-- what writes elsewhere, in blocks from g + 1 on -/
theorem Rd.on (h : Rd w g A n c l st) (hb : Below (g + 1) w w') : Rd w' g A n c l st :=
  ⟨by rw [hb.block g (by omega)]; exact h.obj, h.reads.below ⟨hb.os, hb.tape, hb.output, hb.size, fun k hk => hb.block k (by omega)⟩, h.size, h.cap, h.place⟩
end

theorem isAt_take_succ (S : ByteArray) (b : UInt8) (j : Nat) (h : j < S.size) : (S.data.toList.take (j + 1)).contains b = ((S.data.toList.take j).contains b || b == S[j]) := by
  rw [List.take_succ_eq_append_getElem (by simpa using h), List.contains_append]
  simp only [List.contains_cons, List.contains_nil, Bool.or_false]; rfl

theorem sees_any (g : Nat) (A : Option Addr) (n c : Nat) (l : List UInt8) (st : St) (S : ByteArray) (w : World) (h : Rd w g A n c l st) (hS : S.size ≤ 100) :
    Calls Try.prog 36 #[.pointer (some ⟨g, 0, none⟩), .string S] w fun e w' => e = .returned (.bool (isAt l st.at_ S.data.toList)) ∧ ∃ q, w' = w.drewN q := by
  have HN := hide h.len
  have h0 := h.at0
  have h1 := h.at1
  have hn := h.size
  by_cases hlt : st.at_ < n
  · have hal : st.at_ < l.length := by rw [HN.out]; exact hlt
    obtain ⟨b, o, rfl, hb, hc⟩ := h.byte hal
    have HI := hide (Num.isAt_get (S := S.data.toList) hal)
    generalize hx : l[st.at_] = x at *
    generalize st.at_ = at_ at *
    have HH := hide h
    clear h hx
    go_enter Try.func36, Try.ntmps36
    go_wp2
    go_loopw [8] (fun i wr => ∃ j q : Nat, j ≤ S.size ∧ i = .int .i64 j ∧ wr = w.drewN q ∧ Hid ((S.data.toList.take j).contains x = false)) (fun i _ => S.size - (intOf i).toNat)
    case atStart => exact ⟨0, 0, Nat.zero_le _, rfl, rfl, hide rfl⟩
    case round =>
      obtain ⟨j, q, hj, rfl, rfl, heq⟩ := hrel
      by_cases hjl : j < S.size
      · have hts := isAt_take_succ S x j hjl
        have hj0 : (0 : Int) ≤ (j : Int) := by omega
        have hj1 : (j : Int) < (S.size : Int) := by omega
        by_cases hxs : x = S[j]
        · have ht : ((x.toNat : Int) == (S[j].toNat : Int)) = true := by rw [hxs]; simp
          have HC := hide (show S.data.toList.contains x = true by
            rw [List.contains_iff_mem]
            have : S.data.toList[j]'(by simpa using hjl) ∈ S.data.toList := List.getElem_mem _
            rw [hxs]; exact this)
          clear hxs hts
          go_wp2_with fail
          go_quiet (fail)
          go_wp2
          go_ret
          exact ⟨by rw [HI.out, HC.out]; rfl, q + nq, (by first | rfl | exact World.drewN_drewN ..)⟩
        · have ht : ((x.toNat : Int) == (S[j].toNat : Int)) = false := by
            rw [beq_eq_false_iff_ne]
            intro e
            exact hxs (UInt8.toNat_inj.1 (by omega))
          have HC := hide (show (S.data.toList.take (j + 1)).contains x = false by
            rw [hts, heq.out]; simpa using hxs)
          clear hxs hts
          go_wp2_with fail
          go_quiet (fail)
          go_wp2
          go_roundw
          case rel => exact ⟨j + 1, q + nq, by omega, by go_num, (by first | rfl | exact World.drewN_drewN ..), HC⟩
          case measure => simp [intOf]; omega
      · obtain rfl : j = S.size := by omega
        have HE := hide (show S.data.toList.contains x = false by
          have := heq.out
          rwa [List.take_of_length_le (by simp)] at this)
        go_wp2
        go_ret
        exact ⟨by rw [HI.out, HE.out]; rfl, q, rfl⟩
  · have HI := hide (Num.isAt_no (l := l) (i := st.at_) (S := S.data.toList) (by have := HN.out; omega))
    have hg : decide ((st.at_ : Int) < (n : Int)) = false := by rw [decide_eq_false_iff_not]; omega
    have hg2 : ¬ ((st.at_ : Int) < (n : Int)) := by omega
    generalize st.at_ = at_ at *
    have HH := hide h
    clear h
    go_enter Try.func36, Try.ntmps36
    go_wp2
    go_loopw [8] (fun i wr => ∃ j q : Nat, j ≤ S.size ∧ i = .int .i64 j ∧ wr = w.drewN q) (fun i _ => S.size - (intOf i).toNat)
    case atStart => exact ⟨0, 0, Nat.zero_le _, rfl, rfl⟩
    case round =>
      obtain ⟨j, q, hj, rfl, rfl⟩ := hrel
      by_cases hjl : j < S.size
      · go_wp2_with fail
        go_quiet (fail)
        go_wp2
        go_roundw
        case rel => exact ⟨j + 1, q + nq, by omega, by go_num, (by first | rfl | exact World.drewN_drewN ..)⟩
        case measure => simp [intOf]; omega
      · obtain rfl : j = S.size := by omega
        go_wp2
        go_ret
        exact ⟨by rw [HI.out]; rfl, q, rfl⟩

theorem takes_any (g : Nat) (A : Option Addr) (n c : Nat) (l : List UInt8) (st : St) (S : ByteArray) (w : World) (h : Rd w g A n c l st) (hS : S.size ≤ 100) :
    Calls Try.prog 32 #[.pointer (some ⟨g, 0, none⟩), .string S] w fun e w' => e = .returned (.bool (isAt l st.at_ S.data.toList)) ∧ Rd w' g A n c l (Num.take l S.data.toList st) ∧ w.grownBy w' (some g) := by
  have hn := h.size
  have hpl := h.place
  by_cases hi : isAt l st.at_ S.data.toList = true
  · have hlt := Num.isAt_lt hi
    rw [h.len] at hlt
    have HI := hide hi
    clear hi
    go_enter Try.func32, Try.ntmps32
    go_wp2_with fail
    refine Calls.mono (sees_any g A n c l st S _ h hS) ?_
    rintro e w1 ⟨rfl, q, rfl⟩
    rw [HI.out]
    have h0 := (h.drewN q).at0
    have hf := (h.drewN q).free 0
    go_wp2
    go_ret
    refine ⟨by rw [HI.out]; rfl, ?_, (grown_drewN w q _).trans (grown_set _ _ _ _)⟩
    unfold Num.take
    rw [HI.out, if_pos rfl]
    exact (h.drewN q).set 0 _ _ (by simp only [Num.tick]; omega) (by simp [rdObj, Num.tick])
  · have HI := hide (Bool.eq_false_iff.2 hi)
    clear hi
    go_enter Try.func32, Try.ntmps32
    go_wp2_with fail
    refine Calls.mono (sees_any g A n c l st S _ h hS) ?_
    rintro e w1 ⟨rfl, q, rfl⟩
    rw [HI.out]
    go_wp2
    go_ret
    refine ⟨by rw [HI.out]; rfl, ?_, grown_drewN w q _⟩
    unfold Num.take
    rw [HI.out]
    exact h.drewN q
end Go.Proofs.Ytciakpfnmkoghaa
