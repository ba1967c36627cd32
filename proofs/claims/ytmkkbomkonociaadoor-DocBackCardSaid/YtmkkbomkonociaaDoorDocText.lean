/- Walks of the reference's Sign, decimal, Text, value. -/
import Derived.Test.YtmkkbomkonociaaDoorDocScan
import Derived.Deep.WholeRow
namespace Go.Proofs.YtmkkbomkonociaaDoor
open Go.RowKit

theorem str_append (a b : List UInt8) : str a ++ str b = str (a ++ b) := by
  apply ByteArray.ext
  simp [str, ByteArray.data_append]
theorem hexd_toNat {n : Nat} (h : n < 16) : (hexd n).toNat = if n < 10 then 48 + n else 87 + n := by
  unfold hexd
  split
  · rw [UInt8.toNat_ofNat']; omega
  · rw [UInt8.toNat_ofNat']; omega

theorem dig_size (n : Nat) (hn : n < 4294967296) : (str (Num.dig n)).size ≤ 20 := by
  have := (Num.dig_len 9 n).2 (by omega)
  rw [str_size]; omega
theorem dec_big (m : Nat) (hm : ¬ m < 10) : str (Num.dig (m / 10)) ++ str (Num.dig (m % 10)) = str (Num.dig m) := by
  rw [str_append, Num.dig_big hm, Num.dig_small (show m % 10 < 10 by omega)]

/-- the last j digits of a mark -/
theorem hexs_last (m j : Nat) (hj : j < 8) : hexs m (8 - j) = hexs m (8 - (j + 1)) ++ [hexd (m / 16 ^ j % 16)] := by
  rw [show 8 - j = (8 - (j + 1)) + 1 by omega, hexs, show 7 - (8 - (j + 1)) = j by omega]
theorem hexs_le {m j : Nat} (h : j ≤ 8) : ((hexs m 8).drop (8 - j)).length = j := by rw [List.length_drop, hexs_len]; omega
theorem hexs_get (m : Nat) : ∀ (k j : Nat), j < k → k ≤ 8 → (hexs m k)[j]? = some (hexd (m / 16 ^ (7 - j) % 16))
  | 0, _, h, _ => by omega
  | k + 1, j, h, hk => by
    rw [hexs, List.getElem?_append, hexs_len]
    split
    · exact hexs_get m k j (by assumption) (by omega)
    · obtain rfl : j = k := by omega
      simp
theorem hexs_more (m j : Nat) (hj : j < 8) : (hexs m 8).drop (8 - (j + 1)) = hexd (m / 16 ^ j % 16) :: (hexs m 8).drop (8 - j) := by
  have h := hexs_get m 8 (8 - (j + 1)) (by omega) (by omega)
  have hlt : 8 - (j + 1) < (hexs m 8).length := by rw [hexs_len]; omega
  rw [List.drop_eq_getElem_cons hlt]
  congr 1
  · rw [List.getElem?_eq_getElem hlt, Option.some.injEq] at h
    rw [h]; congr 3; congr 1; omega
  · congr 1; omega
def valOf (c : UInt8) (b : Nat) : Int := if digitN (c.toNat : Int) < b then (digitN (c.toNat : Int) : Int) else -1
end Go.Proofs.YtmkkbomkonociaaDoor
