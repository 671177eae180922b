import Derived.Test.YthjoohdmckfihaaDoorProg
import Derived.Test.YthjoohdmckfihaaDoorL1
import Derived.Test.YthjoohdmckfihaaDoorA1
import Derived.WalkKit
import Derived.WalkSpells
import Derived.Laws.BytesArg
import Derived.Lib.Hide
import Derived.Deep.RegionHeld3
import Derived.Deep.QuietTactic
import Derived.BigQuiet
namespace Go.Proofs.YthjoohdmckfihaaDoor
open Go.RowKit Go.Lib

theorem bcell {W w1 : World} (hb : Below W.heap.size W w1) : (∀ b o, b < W.heap.size → w1.cell? ⟨b, o, none⟩ = W.cell? ⟨b, o, none⟩) ∧ (∀ b o, b < W.heap.size → w1.frozen? ⟨b, o, none⟩ = W.frozen? ⟨b, o, none⟩) :=
  ⟨fun b o h => hb.cell (p := ⟨b, o, none⟩) h, fun b o h => hb.frozen (p := ⟨b, o, none⟩) h⟩

/-- No word on a world. -/
def AnyW (_ : World) : Prop := True
theorem anyW (w : World) : AnyW w := trivial

theorem conv1 (x : Int) (W : World) (a : Nat) (h : W.cell? ⟨a, 0, none⟩ = some (.int .u8 x)) :
    (convert 62 9 (.slice (some ⟨a, 0, none⟩) 1 1)).run Tryd.prog W = .ok (.string (str [UInt8.ofNat x.toNat])) W := by
  have := run_convert_bytes_arg W 62 5 Tryd.underlying62 Tryd.underlying5 a 0 1 1 [x] rfl (fun i hi => by
    obtain rfl : i = 0 := by omega
    simpa using h) 9 Tryd.underlying9
  rw [this]; rfl

set_option maxRecDepth 100000 in
theorem big_small (n : Int) (w : World) (h0 : 0 ≤ n) (hn : n < 10) :
    Calls Tryd.prog 32 #[.int .u64 n] w fun e w' => e = .returned (.string (str (decDigits n.toNat))) ∧ Below w.heap.size w w' := by
  have hc := conv1 (48 + n)
  have hd : decDigits n.toNat = [UInt8.ofNat (48 + n).toNat] := by
    rw [decDigits, dif_pos (by omega), show (48 + n).toNat = 48 + n.toNat by omega]
  rw [hd]
  clear hd
  go_enter Tryd.func32, Tryd.ntmps32
  go_wp2
  go_ret
  exact ⟨rfl, (Below.refl _ w).alloc (Nat.le_refl _) _⟩

set_option maxRecDepth 100000 in
theorem big_step (n : Int) (w : World) (h0 : 10 ≤ n) (h2 : n ≤ 18446744073709551615)
    (ih : ∀ W, Calls Tryd.prog 32 #[.int .u64 (n / 10)] W fun e w' => e = .returned (.string (str (decDigits (n / 10).toNat))) ∧ Below W.heap.size W w') :
    Calls Tryd.prog 32 #[.int .u64 n] w fun e w' => e = .returned (.string (str (decDigits n.toNat))) ∧ Below w.heap.size w w' := by
  have hc := conv1 (48 + n % 10)
  have hl : (str (decDigits (n / 10).toNat)).size + (str [UInt8.ofNat (48 + n % 10).toNat]).size ≤ 9223372036854775807 := by
    rw [str_size, str_size]
    have := decDigits_len 19 (n / 10).toNat (by have : (10 : Nat) ^ 20 = 100000000000000000000 := by decide
                                                omega)
    simp only [List.length_cons, List.length_nil]; omega
  have hd : str (decDigits n.toNat) = str (decDigits (n / 10).toNat) ++ str [UInt8.ofNat (48 + n % 10).toNat] := by
    rw [str_append, decDigits, dif_neg (by omega), show n.toNat / 10 = (n / 10).toNat by omega, show 48 + n.toNat % 10 = (48 + n % 10).toNat by omega]
  rw [hd]
  clear hd
  generalize str (decDigits (n / 10).toNat) = A at *
  have e2 : n.tmod 10 = n % 10 := Int.tmod_eq_emod_of_nonneg (by omega)
  have e1 : IntKind.u64.wrap (n.tdiv 10) = n / 10 := by rw [Int.tdiv_eq_ediv_of_nonneg (by omega)]; exact Int.emod_eq_of_lt (by omega) (by show n / 10 < 18446744073709551616; omega)
  have e3 : IntKind.u64.wrap (48 + n % 10) = 48 + n % 10 := Int.emod_eq_of_lt (by omega) (by show 48 + n % 10 < 18446744073709551616; omega)
  have e4 : IntKind.u8.wrap (48 + n % 10) = 48 + n % 10 := Int.emod_eq_of_lt (by omega) (by show 48 + n % 10 < 256; omega)
  go_enter Tryd.func32, Tryd.ntmps32
  go_wp2_with fail
  go_region_with (go_at_call 32; refine (ih _).mono ?_; rintro e w1 ⟨rfl, hb1⟩; obtain ⟨hbc, _⟩ := bcell hb1)
  all_goals
    go_wp2
    go_ret
    refine ⟨rfl, ?_⟩
    first
      | exact ((Below.refl w.heap.size w).drew.trans (hb1.mono (Nat.le_refl _))).alloc hb1.size _
      | exact ((Below.refl w.heap.size w).alloc (Nat.le_refl _) _).drew.trans (hb1.mono (by simp))

/-- ref.big: a number's digits. -/
theorem big_any (k : Nat) : ∀ (n : Int) (w : World), 0 ≤ n → n < 10 ^ (k + 1) → n ≤ 18446744073709551615 →
    Calls Tryd.prog 32 #[.int .u64 n] w fun e w' => e = .returned (.string (str (decDigits n.toNat))) ∧ Below w.heap.size w w' := by
  induction k with
  | zero => intro n w h0 h1 _; exact big_small n w h0 (by simpa using h1)
  | succ k ih =>
    intro n w h0 h1 h2
    by_cases hn : n < 10
    · exact big_small n w h0 hn
    · refine big_step n w (by omega) h2 (fun W => ih (n / 10) W (by omega) ?_ (by omega))
      rw [Int.pow_succ] at h1
      omega

/-- ref.num: a whole number's numeral. -/
theorem num_any (n : Int) (w : World) (h0 : -9223372036854775808 < n) (h1 : n ≤ 9223372036854775807) :
    Calls Tryd.prog 20 #[.int .i64 n] w fun e w' => e = .returned (.string (str (itoa n))) ∧ Below w.heap.size w w' := by
  have hp : (10 : Int) ^ 20 = 100000000000000000000 := by decide
  by_cases hn : n < 0
  · have hb := fun W => big_any 19 (-n) W (by omega) (by rw [hp]; omega) (by omega)
    have hl : (str [45]).size + (str (decDigits (-n).toNat)).size ≤ 9223372036854775807 := by
      rw [str_size, str_size]
      have := decDigits_len 19 (-n).toNat (by have : (10 : Nat) ^ 20 = 100000000000000000000 := by decide
                                              omega)
      simp only [List.length_cons, List.length_nil]; omega
    have hd : str (itoa n) = str [45] ++ str (decDigits (-n).toNat) := by
      rw [str_append, itoa, if_pos hn, show n.natAbs = (-n).toNat by omega]; rfl
    rw [hd]
    have e1 : IntKind.u64.wrap (-(IntKind.u64.wrap n)) = -n := by
      show (-(n % 18446744073709551616)) % 18446744073709551616 = -n
      omega
    clear hd hp
    generalize str (decDigits (-n).toNat) = A at *
    have hs : str [45] = ⟨#[45]⟩ := rfl
    rw [hs] at hl ⊢
    go_enter Tryd.func20, Tryd.ntmps20
    go_wp2_with (go_at_call 32; refine (hb _).mono ?_; rintro e w1 ⟨rfl, hb1⟩)
    go_ret
    exact ⟨rfl, hb1⟩
  · have hb := fun W => big_any 19 n W (by omega) (by rw [hp]; omega) (by omega)
    have hd : str (itoa n) = str (decDigits n.toNat) := by rw [itoa, if_neg hn]
    rw [hd]
    have e1 : IntKind.u64.wrap n = n := Int.emod_eq_of_lt (by omega) (by show n < 18446744073709551616; omega)
    clear hd hp
    generalize str (decDigits n.toNat) = A at *
    go_enter Tryd.func20, Tryd.ntmps20
    go_wp2_with (go_at_call 32; refine (hb _).mono ?_; rintro e w1 ⟨rfl, hb1⟩)
    go_ret
    exact ⟨rfl, hb1⟩
end Go.Proofs.YthjoohdmckfihaaDoor
