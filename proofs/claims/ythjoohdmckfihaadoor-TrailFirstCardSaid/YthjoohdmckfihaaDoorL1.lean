import Derived.Lib.ItoaNum
import Derived.Laws.Concat
/-! Plain: numerals and a hop's line. -/
namespace Go.Proofs.YthjoohdmckfihaaDoor
open Go.Lib

def str (l : List UInt8) : ByteArray := ⟨l.toArray⟩
theorem str_append (a b : List UInt8) : str a ++ str b = str (a ++ b) := ByteArray.mk_append_mk a b
theorem str_size (a : List UInt8) : (str a).size = a.length := by simp [str, ByteArray.size]

theorem decDigits_len : ∀ (k u : Nat), u < 10 ^ (k + 1) → (decDigits u).length ≤ k + 1
  | 0, u, h => by rw [decDigits, dif_pos (by simpa using h)]; simp
  | k + 1, u, h => by
    rw [decDigits]
    split
    · simp
    · rw [List.length_append]
      have := decDigits_len k (u / 10) (by rw [Nat.pow_succ] at h; omega)
      simp only [List.length_cons, List.length_nil]; omega
theorem itoa_len (n : Int) (h0 : -9223372036854775808 ≤ n) (h1 : n ≤ 9223372036854775807) : (itoa n).length ≤ 21 := by
  unfold itoa
  split
  · have := decDigits_len 19 n.natAbs (by have : (10 : Nat) ^ 20 = 100000000000000000000 := by decide
                                          omega)
    simp only [List.length_cons]; omega
  · have := decDigits_len 19 n.toNat (by have : (10 : Nat) ^ 20 = 100000000000000000000 := by decide
                                         omega)
    omega
end Go.Proofs.YthjoohdmckfihaaDoor
