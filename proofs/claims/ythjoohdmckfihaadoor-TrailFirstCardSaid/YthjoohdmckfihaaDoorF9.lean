import Derived.Test.YthjoohdmckfihaaDoorF1
import Derived.Test.YthjoohdmckfihaaDoorF3
import Derived.Test.YthjoohdmckfihaaDoorL0
namespace Go.Proofs.YthjoohdmckfihaaDoor
open Go.RowKit Go.Lib Go.Sort

theorem spr_up (l : List Hp) : Rising (spr l) := by
  unfold spr
  cases l.find? (fun h => h.kind == 1) with
  | none => exact List.Pairwise.nil
  | some l0 => exact spr_rising l0 l

theorem up_at {R : List (Int × Int)} (h : Rising R) (k : Nat) (hk : k < R.length) (h0 : 0 < k) : ¬ R[k]!.1 ≤ R[k - 1]!.1 := by
  have := List.pairwise_iff_getElem.1 h (k - 1) k (by omega) hk (by omega)
  rw [getElem!_pos R k hk, getElem!_pos R (k - 1) (by omega)]
  omega

theorem fold_len (l0 : Hp) : ∀ (l : List Hp) (out : List (Int × Int)), (l.foldl (refStep l0) out).length ≤ out.length + l.length
  | [], out => Nat.le_refl _
  | x :: l, out => by
    have h1 := fold_len l0 l (refStep l0 out x)
    have h2 := refStep_len l0 x out
    simp only [List.foldl_cons, List.length_cons]; omega
theorem spr_len (l : List Hp) : (spr l).length ≤ l.length := by
  rw [← refSpr_eq]
  unfold refSpr
  cases l.find? (fun h => h.kind == 1) with
  | none => exact Nat.zero_le _
  | some l0 => have := fold_len l0 l []; simpa [refOf] using this

set_option maxRecDepth 100000 in
theorem first_no {w : World} {v : Value} {l : List Hp} (kind region : Int) (hP : Pow w) (h : HopsIn w v l) (hl : l.length ≤ 9223372036854775807) (hs : smallB l = false) :
    Calls Tryd.prog 4 #[v, .int .i64 kind, .int .i64 region] w fun e w' => e = .returned (.bool true) ∧ Below w.heap.size w w' := by
  have hc := small_any h hl
  rw [hs] at hc
  have hk := fun W hb => known_any (w := W) (hP.below hb)
  clear h hs
  go_enter Tryd.func4, Tryd.ntmps4
  go_wp2_with (first | (go_at_call 6; refine hc.mono ?_; rintro e w1 ⟨rfl, hb1⟩) | (go_at_call 7; refine (hk _ hb1).mono ?_; rintro e w2 ⟨rfl, hb2⟩))
  go_ret
  exact ⟨rfl, hb1.trans (hb2.mono hb1.size)⟩

set_option maxRecDepth 100000 in
set_option maxHeartbeats 1000000 in
theorem first_yes {w : World} {v : Value} {l : List Hp} (kind region : Int) (hP : Pow w) (h : HopsIn w v l) (hl : l.length ≤ 100) (hok : ∀ j, j < l.length → l[j]!.Ok) (hs : smallB l = true) :
    Calls Tryd.prog 4 #[v, .int .i64 kind, .int .i64 region] w fun e w' => e = .returned (.bool true) ∧ Below w.heap.size w w' := by
  have hc := small_any h (by omega)
  rw [hs] at hc
  have hk := fun W hb => known_any (w := W) (hP.below hb)
  have hF := fun W hb => tfirst_any (w := W) (h.below hb) hl kind region
  have hG := fun W hb => rfirst_any (w := W) (h.below hb) hl kind region
  have hS := fun W hb => spread_any (w := W) (h.below hb) hl hok
  have hT := fun W hb => rspread_any (w := W) (h.below hb) hl hok
  have hup := Lib.hid (fun k hk h0 => up_at (spr_up l) k hk h0)
  have hlen := spr_len l
  generalize spr l = S at *
  generalize (firstV l kind region).1 = fa at *
  generalize (firstV l kind region).2 = fb at *
  clear h hs hok hP
  go_enter Tryd.func4, Tryd.ntmps4
  go_wp2_with (first
    | (go_at_call 6; refine hc.mono ?_; rintro e w1 ⟨rfl, hb1⟩)
    | (go_at_call 10; refine (hF _ hb1).mono ?_; rintro e w2 ⟨rfl, hb2⟩; have hw2 := hb1.trans (hb2.mono hb1.size))
    | (go_at_call 11; refine (hG _ hw2).mono ?_; rintro e w3 ⟨rfl, hb3⟩; have hw3 := hw2.trans (hb3.mono hw2.size))
    | (go_at_call 12; refine (hS _ hw3).mono ?_; rintro e w4 ⟨u4, rfl, hr4, hb4⟩; have hw4 := hw3.trans (hb4.mono hw3.size); obtain ⟨a4, c4, rfl, hc4, ha4, _⟩ := own_form' hr4)
    | (go_at_call 13; refine (hT _ hw4).mono ?_; rintro e w5 ⟨u5, rfl, hr5, hb5⟩; have hw5 := hw4.trans (hb5.mono hw4.size); obtain ⟨a5, c5, rfl, hc5, ha5, _⟩ := own_form' hr5; have hr45 := own_below hr4 hb5; clear hr4))
  clear hF hG hS hT hc
  have hSl : S.length ≤ 100 := by omega
  go_loopw [13] (fun i wr => ∃ k : Nat, k ≤ S.length ∧ i = .int .i64 k ∧ Below w5.heap.size w5 wr)
    (fun i _ => S.length - (intOf i).toNat)
  case atStart => exact ⟨0, Nat.zero_le _, rfl, Below.refl _ _⟩
  case round =>
    obtain ⟨k, hk', rfl, hq⟩ := hrel
    have hq1 := hq.size
    have hwr := hw5.trans (hq.mono hw5.size)
    by_cases hlt : k < S.length
    · obtain ⟨g4, rfl, hg4, x1, x2⟩ := reach_at hr45 hq k hlt
      obtain ⟨g5, rfl, hg5, y1, y2⟩ := reach_at hr5 hq k hlt
      have hk0 : (0 : Int) ≤ (k : Int) := by omega
      have hk1 : (k : Int) < (S.length : Int) := by omega
      have eR := neqR
      have gR := guardR
      by_cases h0 : 0 < k
      · obtain ⟨_, he, _, z1, _⟩ := reach_at hr45 hq (k - 1) (by omega)
        injection he with he; injection he with he; subst he
        have hn : (S[k]!.1 ≤ S[k - 1]!.1) = False := eq_false (by have := hup.out k hlt h0; omega)
        have hp0 : (0 : Int) < (k : Int) := by omega
        have hm0 : (0 : Int) ≤ (k : Int) - 1 := by omega
        have hm1 : (k : Int) - 1 < (S.length : Int) := by omega
        have hm2 : ((k : Int) - 1).toNat = k - 1 := by omega
        have hm3 : IntKind.i64.wrap ((k : Int) - 1) = (k : Int) - 1 := IntWalk.i64_in _ (by omega)
        generalize S[k - 1]!.1 = zz at z1 hn
        generalize S[k]!.1 = r1 at *
        generalize S[k]!.2 = r2 at *
        go_wp2
        go_quiet (fail)
        go_wp2
        go_roundw
        case rel => exact ⟨k + 1, by omega, by go_num, pw_below_drewN hq _⟩
        case measure => simp [intOf]; omega
      · obtain rfl : k = 0 := by omega
        generalize S[0]!.1 = r1 at *
        generalize S[0]!.2 = r2 at *
        go_wp2
        go_quiet (fail)
        go_wp2
        go_roundw
        case rel => exact ⟨0 + 1, by omega, by go_num, pw_below_drewN hq _⟩
        case measure => simp [intOf]; omega
    · obtain rfl : k = S.length := by omega
      go_wp2_with (go_at_call 7; refine (hk _ hwr).mono ?_; rintro e w6 ⟨rfl, hb6⟩)
      go_ret
      exact ⟨rfl, hwr.trans (hb6.mono hwr.size)⟩

/-- The law's walk. -/
theorem first_law {w : World} {v : Value} {l : List Hp} (kind region : Int) (hP : Pow w) (h : HopsIn w v l) (hl : l.length ≤ 9223372036854775807) (hk : KindsOk l) :
    Calls Tryd.prog 4 #[v, .int .i64 kind, .int .i64 region] w fun e w' => e = .returned (.bool true) ∧ Below w.heap.size w w' := by
  cases hs : smallB l with
  | false => exact first_no kind region hP h hl hs
  | true => obtain ⟨h1, h2⟩ := ok_of_small hs hk; exact first_yes kind region hP h h1 h2 hs
end Go.Proofs.YthjoohdmckfihaaDoor
