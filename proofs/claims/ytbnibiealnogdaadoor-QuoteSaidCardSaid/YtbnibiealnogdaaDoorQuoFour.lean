/- The walk of the law's own four: a backslash, u and four digits, small or great. -/
import Derived.Test.YtbnibiealnogdaaDoorQuoSaidMath
import Derived.Test.YtbnibiealnogdaaDoorDag
import Derived.Test.YtbnibiealnogdaaDoorUtfBegin
import Derived.Test.YtbnibiealnogdaaDoorQuoUpper
namespace Go.Proofs.YtbnibiealnogdaaDoor
open Go.RowKit

attribute [local go_sem] Dag.gives
def digs (g : Bool) : ByteArray := if g = true then ⟨#[48, 49, 50, 51, 52, 53, 54, 55, 56, 57, 65, 66, 67, 68, 69, 70]⟩ else ⟨#[48, 49, 50, 51, 52, 53, 54, 55, 56, 57, 97, 98, 99, 100, 101, 102]⟩
theorem digs_size (g : Bool) : (digs g).size = 16 := by cases g <;> rfl
theorem digs_at : ∀ g, ∀ d, d < 16 → ∀ h : d < (digs g).size, (digs g)[d]'h = Quo.digL g d := by decide
theorem digs_idx {g : Bool} {D : ByteArray} (hat : ∀ d, d < 16 → ∀ h : d < D.size, D[d]'h = Quo.digL g d) (e : Int) (d : Nat) (he : e = (d : Int)) (hd : d < 16) (h : e.toNat < D.size) :
    Value.int .u8 ((D[e.toNat]'h).toNat : Int) = .int .u8 ((Quo.digL g d).toNat : Int) := by
  subst he
  simp only [Int.toNat_natCast] at h ⊢
  rw [hat d hd h]
theorem str_size4 (a b c d : UInt8) : (str [a, b, c, d]).size = 4 := rfl
theorem str_four (n : Nat) (g : Bool) : ByteArray.mk #[92, 117] ++ str [Quo.digL g (n / 4096 % 16), Quo.digL g (n / 256 % 16), Quo.digL g (n / 16 % 16), Quo.digL g (n % 16)] = str (Quo.fourL n g) := str_cat [92, 117] _
theorem low_ascii : ∀ b ∈ (ByteArray.mk #[48, 49, 50, 51, 52, 53, 54, 55, 56, 57, 97, 98, 99, 100, 101, 102]).data.toList, b.toNat < 128 := by decide
theorem up_low : ByteArray.mk (Lib.toUpperA (ByteArray.mk #[48, 49, 50, 51, 52, 53, 54, 55, 56, 57, 97, 98, 99, 100, 101, 102]).data.toList).toArray = digs true := by decide
set_option maxRecDepth 100000 in
set_option maxHeartbeats 4000000 in
theorem four_any (n : Nat) (g : Bool) (w : World) (hn : n < 65536) :
    Calls Tryd.prog 27 #[.int .i64 (n : Int), .bool g] w fun e w' => e = .returned (.string (str (Quo.fourL n g))) ∧ Below w.heap.size w w' := by
  cases g with
  | false =>
    go_enter Tryd.func27, Tryd.ntmps27
    go_wp2_with fail
    rw [show ByteArray.mk #[48, 49, 50, 51, 52, 53, 54, 55, 56, 57, 97, 98, 99, 100, 101, 102] = digs false from rfl]
    have hD := digs_size false
    have hat := digs_at false
    generalize digs false = D at *
    have hB := hide (Below.refl w.heap.size w)
    have a1 := i64_and15 (x := (n : Int) / 4096) (by omega) (by omega)
    have a2 := i64_and15 (x := (n : Int) / 256) (by omega) (by omega)
    have a3 := i64_and15 (x := (n : Int) / 16) (by omega) (by omega)
    have a4 := i64_and15 (x := (n : Int)) (by omega) (by omega)
    refine Dag.wp_region_facts 22 (Dag.list [Dag.Is (.string D), Dag.Is (.int .i64 (n : Int)), Dag.Is (.int .i64 ((n / 4096 : Nat) : Int)), Dag.Is (.int .i64 ((n / 4096 % 16 : Nat) : Int)), Dag.Is (.int .u8 ((Quo.digL false (n / 4096 % 16)).toNat : Int)), Dag.Is (.string D), Dag.Is (.int .i64 (n : Int)), Dag.Is (.int .i64 ((n / 256 : Nat) : Int)), Dag.Is (.int .i64 ((n / 256 % 16 : Nat) : Int)), Dag.Is (.int .u8 ((Quo.digL false (n / 256 % 16)).toNat : Int)), Dag.Is (.string D), Dag.Is (.int .i64 (n : Int)), Dag.Is (.int .i64 ((n / 16 : Nat) : Int)), Dag.Is (.int .i64 ((n / 16 % 16 : Nat) : Int)), Dag.Is (.int .u8 ((Quo.digL false (n / 16 % 16)).toNat : Int)), Dag.Is (.string D), Dag.Is (.int .i64 (n : Int)), Dag.Is (.int .i64 ((n % 16 : Nat) : Int)), Dag.Is (.int .u8 ((Quo.digL false (n % 16)).toNat : Int)), Dag.MadeSl w.heap.size #[.int .u8 ((Quo.digL false (n / 4096 % 16)).toNat : Int), .int .u8 ((Quo.digL false (n / 256 % 16)).toNat : Int), .int .u8 ((Quo.digL false (n / 16 % 16)).toNat : Int), .int .u8 ((Quo.digL false (n % 16)).toNat : Int)] 5, Dag.Is (.string (str [Quo.digL false (n / 4096 % 16), Quo.digL false (n / 256 % 16), Quo.digL false (n / 16 % 16), Quo.digL false (n % 16)])), Dag.Is (.string (str (Quo.fourL n false)))]) (by kernel_rfl) (by kernel_rfl) (Dag.stable_list (by simp [Dag.Stable.is, Dag.Stable.madeSl])) ?_ ?_
    · intro vs W hbW
      simp only [Dag.allOps, List.take_succ_cons, List.take_zero, Dag.fill, Act.put, List.setIfInBounds_toArray, List.set_cons_succ, List.set_cons_zero, Dag.deps, Region.binds, Dag.list, Dag.Is, List.getD_cons_zero, List.getD_cons_succ, and_true, forall_const, Nat.reduceAdd, Region.wanted, reduceIte]
      refine ⟨?_, ?_, ?_, ?_, ?_, ?_, ?_, ?_, ?_, ?_, ?_, ?_, ?_, ?_, ?_, ?_, ?_, ?_, ?_, ?_, ?_, ?_⟩
      · (try intro hd); go_simp; (first | done | exact ⟨Below.refl _ _, rfl⟩ | exact Below.refl _ _)
      · (try intro hd); go_simp; (first | done | exact ⟨Below.refl _ _, rfl⟩ | exact Below.refl _ _)
      · (try intro hd); go_simp; exact Below.refl _ _
      · (try intro hd); go_simp; exact Below.refl _ _
      · (try intro hd); go_simp; rw [dif_pos ⟨by omega, by omega⟩]; exact ⟨Below.refl _ _, digs_idx hat _ _ (by omega) (by omega) _⟩
      · (try intro hd); go_simp; (first | done | exact ⟨Below.refl _ _, rfl⟩ | exact Below.refl _ _)
      · (try intro hd); go_simp; (first | done | exact ⟨Below.refl _ _, rfl⟩ | exact Below.refl _ _)
      · (try intro hd); go_simp; exact Below.refl _ _
      · (try intro hd); go_simp; exact Below.refl _ _
      · (try intro hd); go_simp; rw [dif_pos ⟨by omega, by omega⟩]; exact ⟨Below.refl _ _, digs_idx hat _ _ (by omega) (by omega) _⟩
      · (try intro hd); go_simp; (first | done | exact ⟨Below.refl _ _, rfl⟩ | exact Below.refl _ _)
      · (try intro hd); go_simp; (first | done | exact ⟨Below.refl _ _, rfl⟩ | exact Below.refl _ _)
      · (try intro hd); go_simp; exact Below.refl _ _
      · (try intro hd); go_simp; exact Below.refl _ _
      · (try intro hd); go_simp; rw [dif_pos ⟨by omega, by omega⟩]; exact ⟨Below.refl _ _, digs_idx hat _ _ (by omega) (by omega) _⟩
      · (try intro hd); go_simp; (first | done | exact ⟨Below.refl _ _, rfl⟩ | exact Below.refl _ _)
      · (try intro hd); go_simp; (first | done | exact ⟨Below.refl _ _, rfl⟩ | exact Below.refl _ _)
      · (try intro hd); go_simp; exact Below.refl _ _
      · (try intro hd); go_simp; rw [dif_pos ⟨by omega, by omega⟩]; exact ⟨Below.refl _ _, digs_idx hat _ _ (by omega) (by omega) _⟩
      · (try intro hd); go_simp; exact ⟨below_alloc _ _, W.heap.size, rfl, hbW.size, by simp, heap_alloc_last _ _⟩
      · (try intro hd); obtain ⟨k, hv, _, _, hk⟩ := hd; have hcv := run_str (P := Tryd.prog) W 29 9 5 (some ⟨k, 0, none⟩) 4 4 [Quo.digL false (n / 4096 % 16), Quo.digL false (n / 256 % 16), Quo.digL false (n / 16 % 16), Quo.digL false (n % 16)] (RB.head hk rfl rfl) (by kernel_rfl) (by kernel_rfl) (by kernel_rfl); simp only [List.size_toArray, List.length_cons, List.length_nil, Nat.zero_add, Nat.reduceAdd] at hv; go_simp; exact Below.refl _ _
      · (try intro hd); have hz := str_size4 (Quo.digL false (n / 4096 % 16)) (Quo.digL false (n / 256 % 16)) (Quo.digL false (n / 16 % 16)) (Quo.digL false (n % 16)); have hf := str_four n false; go_simp; exact Below.refl _ _
    · intro vs W hbW hk
      simp only [Dag.known, Dag.list, Dag.Is, List.getD_cons_zero, List.getD_cons_succ, and_true] at hk
      obtain ⟨k0, k1, k2, k3, k4, k5, k6, k7, k8, k9, k10, k11, k12, k13, k14, k15, k16, k17, k18, k19, k20, k21⟩ := hk
      simp only [List.take_succ_cons, List.take_zero, List.drop_succ_cons, List.drop_zero, Dag.fill, Act.put, List.setIfInBounds_toArray, List.set_cons_succ, List.set_cons_zero, Nat.reduceAdd, k0, k1, k2, k3, k4, k5, k6, k7, k8, k9, k10, k11, k12, k13, k14, k15, k16, k17, k18, k20, k21]
      clear k0 k1 k2 k3 k4 k5 k6 k7 k8 k9 k10 k11 k12 k13 k14 k15 k16 k17 k18 k20 k21
      go_wp2_with fail
      go_ret
      exact ⟨rfl, hB.out.trans (hbW.mono hB.out.size)⟩
  | true =>
    go_enter Tryd.func27, Tryd.ntmps27
    go_wp2_with fail
    refine Calls.mono (Shelf.strings_ToUpper_ascii _ w (by decide) (fun j b hb => low_ascii b (List.mem_of_getElem? hb))) ?_
    rintro e w1 ⟨rfl, hb1⟩
    rw [up_low]
    have hB := hide hb1
    have hD := digs_size true
    have hat := digs_at true
    generalize digs true = D at *
    clear hb1
    go_wp2_with fail
    have a1 := i64_and15 (x := (n : Int) / 4096) (by omega) (by omega)
    have a2 := i64_and15 (x := (n : Int) / 256) (by omega) (by omega)
    have a3 := i64_and15 (x := (n : Int) / 16) (by omega) (by omega)
    have a4 := i64_and15 (x := (n : Int)) (by omega) (by omega)
    refine Dag.wp_region_facts 22 (Dag.list [Dag.Is (.string D), Dag.Is (.int .i64 (n : Int)), Dag.Is (.int .i64 ((n / 4096 : Nat) : Int)), Dag.Is (.int .i64 ((n / 4096 % 16 : Nat) : Int)), Dag.Is (.int .u8 ((Quo.digL true (n / 4096 % 16)).toNat : Int)), Dag.Is (.string D), Dag.Is (.int .i64 (n : Int)), Dag.Is (.int .i64 ((n / 256 : Nat) : Int)), Dag.Is (.int .i64 ((n / 256 % 16 : Nat) : Int)), Dag.Is (.int .u8 ((Quo.digL true (n / 256 % 16)).toNat : Int)), Dag.Is (.string D), Dag.Is (.int .i64 (n : Int)), Dag.Is (.int .i64 ((n / 16 : Nat) : Int)), Dag.Is (.int .i64 ((n / 16 % 16 : Nat) : Int)), Dag.Is (.int .u8 ((Quo.digL true (n / 16 % 16)).toNat : Int)), Dag.Is (.string D), Dag.Is (.int .i64 (n : Int)), Dag.Is (.int .i64 ((n % 16 : Nat) : Int)), Dag.Is (.int .u8 ((Quo.digL true (n % 16)).toNat : Int)), Dag.MadeSl w1.heap.size #[.int .u8 ((Quo.digL true (n / 4096 % 16)).toNat : Int), .int .u8 ((Quo.digL true (n / 256 % 16)).toNat : Int), .int .u8 ((Quo.digL true (n / 16 % 16)).toNat : Int), .int .u8 ((Quo.digL true (n % 16)).toNat : Int)] 5, Dag.Is (.string (str [Quo.digL true (n / 4096 % 16), Quo.digL true (n / 256 % 16), Quo.digL true (n / 16 % 16), Quo.digL true (n % 16)])), Dag.Is (.string (str (Quo.fourL n true)))]) (by kernel_rfl) (by kernel_rfl) (Dag.stable_list (by simp [Dag.Stable.is, Dag.Stable.madeSl])) ?_ ?_
    · intro vs W hbW
      simp only [Dag.allOps, List.take_succ_cons, List.take_zero, Dag.fill, Act.put, List.setIfInBounds_toArray, List.set_cons_succ, List.set_cons_zero, Dag.deps, Region.binds, Dag.list, Dag.Is, List.getD_cons_zero, List.getD_cons_succ, and_true, forall_const, Nat.reduceAdd, Region.wanted, reduceIte]
      refine ⟨?_, ?_, ?_, ?_, ?_, ?_, ?_, ?_, ?_, ?_, ?_, ?_, ?_, ?_, ?_, ?_, ?_, ?_, ?_, ?_, ?_, ?_⟩
      · (try intro hd); go_simp; (first | done | exact ⟨Below.refl _ _, rfl⟩ | exact Below.refl _ _)
      · (try intro hd); go_simp; (first | done | exact ⟨Below.refl _ _, rfl⟩ | exact Below.refl _ _)
      · (try intro hd); go_simp; exact Below.refl _ _
      · (try intro hd); go_simp; exact Below.refl _ _
      · (try intro hd); go_simp; rw [dif_pos ⟨by omega, by omega⟩]; exact ⟨Below.refl _ _, digs_idx hat _ _ (by omega) (by omega) _⟩
      · (try intro hd); go_simp; (first | done | exact ⟨Below.refl _ _, rfl⟩ | exact Below.refl _ _)
      · (try intro hd); go_simp; (first | done | exact ⟨Below.refl _ _, rfl⟩ | exact Below.refl _ _)
      · (try intro hd); go_simp; exact Below.refl _ _
      · (try intro hd); go_simp; exact Below.refl _ _
      · (try intro hd); go_simp; rw [dif_pos ⟨by omega, by omega⟩]; exact ⟨Below.refl _ _, digs_idx hat _ _ (by omega) (by omega) _⟩
      · (try intro hd); go_simp; (first | done | exact ⟨Below.refl _ _, rfl⟩ | exact Below.refl _ _)
      · (try intro hd); go_simp; (first | done | exact ⟨Below.refl _ _, rfl⟩ | exact Below.refl _ _)
      · (try intro hd); go_simp; exact Below.refl _ _
      · (try intro hd); go_simp; exact Below.refl _ _
      · (try intro hd); go_simp; rw [dif_pos ⟨by omega, by omega⟩]; exact ⟨Below.refl _ _, digs_idx hat _ _ (by omega) (by omega) _⟩
      · (try intro hd); go_simp; (first | done | exact ⟨Below.refl _ _, rfl⟩ | exact Below.refl _ _)
      · (try intro hd); go_simp; (first | done | exact ⟨Below.refl _ _, rfl⟩ | exact Below.refl _ _)
      · (try intro hd); go_simp; exact Below.refl _ _
      · (try intro hd); go_simp; rw [dif_pos ⟨by omega, by omega⟩]; exact ⟨Below.refl _ _, digs_idx hat _ _ (by omega) (by omega) _⟩
      · (try intro hd); go_simp; exact ⟨below_alloc _ _, W.heap.size, rfl, hbW.size, by simp, heap_alloc_last _ _⟩
      · (try intro hd); obtain ⟨k, hv, _, _, hk⟩ := hd; have hcv := run_str (P := Tryd.prog) W 29 9 5 (some ⟨k, 0, none⟩) 4 4 [Quo.digL true (n / 4096 % 16), Quo.digL true (n / 256 % 16), Quo.digL true (n / 16 % 16), Quo.digL true (n % 16)] (RB.head hk rfl rfl) (by kernel_rfl) (by kernel_rfl) (by kernel_rfl); simp only [List.size_toArray, List.length_cons, List.length_nil, Nat.zero_add, Nat.reduceAdd] at hv; go_simp; exact Below.refl _ _
      · (try intro hd); have hz := str_size4 (Quo.digL true (n / 4096 % 16)) (Quo.digL true (n / 256 % 16)) (Quo.digL true (n / 16 % 16)) (Quo.digL true (n % 16)); have hf := str_four n true; go_simp; exact Below.refl _ _
    · intro vs W hbW hk
      simp only [Dag.known, Dag.list, Dag.Is, List.getD_cons_zero, List.getD_cons_succ, and_true] at hk
      obtain ⟨k0, k1, k2, k3, k4, k5, k6, k7, k8, k9, k10, k11, k12, k13, k14, k15, k16, k17, k18, k19, k20, k21⟩ := hk
      simp only [List.take_succ_cons, List.take_zero, List.drop_succ_cons, List.drop_zero, Dag.fill, Act.put, List.setIfInBounds_toArray, List.set_cons_succ, List.set_cons_zero, Nat.reduceAdd, k0, k1, k2, k3, k4, k5, k6, k7, k8, k9, k10, k11, k12, k13, k14, k15, k16, k17, k18, k20, k21]
      clear k0 k1 k2 k3 k4 k5 k6 k7 k8 k9 k10 k11 k12 k13 k14 k15 k16 k17 k18 k20 k21
      go_wp2_with fail
      go_ret
      exact ⟨rfl, hB.out.trans (hbW.mono hB.out.size)⟩
end Go.Proofs.YtbnibiealnogdaaDoor
