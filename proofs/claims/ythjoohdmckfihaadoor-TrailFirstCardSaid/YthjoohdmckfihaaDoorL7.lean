import Derived.Test.YthjoohdmckfihaaDoorL6
namespace Go.Proofs.YthjoohdmckfihaaDoor
open Go.RowKit Go.Lib Go.Sort

/-- What comes in is read: the kinds are numbers of 64 bits. -/
def KindsOk (l : List Hp) : Prop := ∀ j, j < l.length → -9223372036854775808 ≤ l[j]!.kind ∧ l[j]!.kind ≤ 9223372036854775807

theorem ok_of_small {l : List Hp} (hs : smallB l = true) (hk : KindsOk l) : l.length ≤ 100 ∧ ∀ j, j < l.length → l[j]!.Ok := by
  unfold smallB at hs
  rw [Bool.and_eq_true, decide_eq_true_eq, List.all_eq_true] at hs
  refine ⟨hs.1, fun j hj => ?_⟩
  have h1 := hs.2 l[j] (List.getElem_mem hj)
  have h2 := hk j hj
  rw [← getElem!_pos l j hj] at h1
  have h3 := of_decide_eq_true h1
  exact ⟨h2, ⟨h3.1, h3.2.1⟩, ⟨h3.2.2.1, h3.2.2.2.1⟩, ⟨h3.2.2.2.2.1, h3.2.2.2.2.2.1⟩, ⟨h3.2.2.2.2.2.2.1, h3.2.2.2.2.2.2.2.1⟩, h3.2.2.2.2.2.2.2.2⟩

theorem keep7 {W w2 : World} {g b n o : Nat} {v v0 v1 v2 v3 v4 v5 : Value} (hb : Below W.heap.size W w2) (hlt : g < W.heap.size) (hlt2 : b < W.heap.size)
    (h : W.cell? ⟨g, n, none⟩ = some v ∧ W.cell? ⟨b, o, none⟩ = some v0 ∧ W.cell? ⟨b, o + 1, none⟩ = some v1 ∧ W.cell? ⟨b, o + 2, none⟩ = some v2 ∧ W.cell? ⟨b, o + 3, none⟩ = some v3 ∧ W.cell? ⟨b, o + 4, none⟩ = some v4 ∧ W.cell? ⟨b, o + 5, none⟩ = some v5) :
    w2.cell? ⟨g, n, none⟩ = some v ∧ w2.cell? ⟨b, o, none⟩ = some v0 ∧ w2.cell? ⟨b, o + 1, none⟩ = some v1 ∧ w2.cell? ⟨b, o + 2, none⟩ = some v2 ∧ w2.cell? ⟨b, o + 3, none⟩ = some v3 ∧ w2.cell? ⟨b, o + 4, none⟩ = some v4 ∧ w2.cell? ⟨b, o + 5, none⟩ = some v5 :=
  ⟨(hb.cell (p := ⟨g, n, none⟩) hlt).trans h.1, (hb.cell (p := ⟨b, o, none⟩) hlt2).trans h.2.1, (hb.cell (p := ⟨b, o + 1, none⟩) hlt2).trans h.2.2.1, (hb.cell (p := ⟨b, o + 2, none⟩) hlt2).trans h.2.2.2.1,
   (hb.cell (p := ⟨b, o + 3, none⟩) hlt2).trans h.2.2.2.2.1, (hb.cell (p := ⟨b, o + 4, none⟩) hlt2).trans h.2.2.2.2.2.1, (hb.cell (p := ⟨b, o + 5, none⟩) hlt2).trans h.2.2.2.2.2.2⟩

set_option maxRecDepth 100000 in
theorem lines_no {w : World} {v : Value} {l : List Hp} (hP : Pow w) (h : HopsIn w v l) (hl : l.length ≤ 9223372036854775807) (hs : smallB l = false) :
    Calls Tryd.prog 3 #[v] w fun e w' => e = .returned (.bool true) ∧ Below w.heap.size w w' := by
  have hc := small_any h hl
  rw [hs] at hc
  have hk := fun W hb => known_any (w := W) (hP.below hb)
  clear h hs
  go_enter Tryd.func3, Tryd.ntmps3
  go_wp2_with (first | (go_at_call 6; refine hc.mono ?_; rintro e w1 ⟨rfl, hb1⟩) | (go_at_call 7; refine (hk _ hb1).mono ?_; rintro e w2 ⟨rfl, hb2⟩))
  go_ret
  exact ⟨rfl, hb1.trans (hb2.mono hb1.size)⟩

set_option maxRecDepth 100000 in
theorem lines_yes {w : World} {v : Value} {l : List Hp} (hP : Pow w) (h : HopsIn w v l) (hl : l.length ≤ 100) (hok : ∀ j, j < l.length → l[j]!.Ok) (hs : smallB l = true) :
    Calls Tryd.prog 3 #[v] w fun e w' => e = .returned (.bool true) ∧ Below w.heap.size w w' := by
  have hc := small_any h (by omega)
  rw [hs] at hc
  have hk := fun W hb => known_any (w := W) (hP.below hb)
  have hL := fun W hb => lines_any (w := W) (hP.below hb) (h.below hb) hl hok
  obtain ⟨a, c, rfl, h⟩ := h
  have HH := Lib.hid h
  have HK := Lib.hid hok
  clear h hs hok hP
  go_enter Tryd.func3, Tryd.ntmps3
  go_wp2_with (first | (go_at_call 6; refine hc.mono ?_; rintro e w1 ⟨rfl, hb1⟩) | (go_at_call 8; refine (hL _ hb1).mono ?_; rintro e w2 ⟨u, rfl, hrow, hb2⟩; obtain ⟨a2, c2, rfl, hcell⟩ := own_form hrow; have HC := Lib.hid hcell; clear hcell; have hw2 := hb1.trans (hb2.mono hb1.size)))
  clear hc hL
  go_loopw [4] (fun i wr => ∃ k : Nat, k ≤ l.length ∧ i = .int .i64 k ∧ Below w2.heap.size w2 wr)
    (fun i _ => l.length - (intOf i).toNat)
  case atStart => exact ⟨0, Nat.zero_le _, rfl, Below.refl _ _⟩
  case round =>
    obtain ⟨k, hk', rfl, hq⟩ := hrel
    have hq1 := hq.size
    have hwr := hw2.trans (hq.mono hw2.size)
    by_cases hlt : k < l.length
    · obtain ⟨b, off, rfl, hb, l20, l21, l22, l23, l24, l25⟩ := hopCellsAny hwr HH.out k hlt
      obtain ⟨g, rfl, hg1, hg2, hgc⟩ := HC.out (by omega)
      have hbr : b < wr.heap.size := Nat.lt_of_lt_of_le hb hwr.size
      have hgr : g < wr.heap.size := Nat.lt_of_lt_of_le hg2 hq1
      have hsc : wr.cell? ⟨g, k, none⟩ = some (.string (str (lineL l[k]!))) := by
        rw [hq.cell (p := ⟨g, k, none⟩) hg2, hgc k (by omega), List.getElem?_map, List.getElem?_eq_getElem hlt, getElem!_pos l k hlt]; rfl
      have hox := HK.out k hlt
      have hrl := fun W => refline_any l[k]! W hox
      clear hgc hox
      generalize l[k]! = x at *
      generalize str (lineL x) = L at *
      have hk0 : (0 : Int) ≤ (k : Int) := by omega
      have hk1 : (k : Int) < (l.length : Int) := by omega
      go_wp2_with fail
      go_region_held3 (fun w' => w'.cell? ⟨g, k, none⟩ = some (.string L) ∧ w'.cell? ⟨b, off + k * 6, none⟩ = some (.int .i64 x.kind) ∧ w'.cell? ⟨b, off + k * 6 + 1, none⟩ = some (.int .i64 x.act) ∧ w'.cell? ⟨b, off + k * 6 + 2, none⟩ = some (.int .i64 x.region) ∧ w'.cell? ⟨b, off + k * 6 + 3, none⟩ = some (.int .i64 x.src) ∧ w'.cell? ⟨b, off + k * 6 + 4, none⟩ = some (.int .i64 x.code) ∧ w'.cell? ⟨b, off + k * 6 + 5, none⟩ = some (.string x.device))
        (first | exact keep7 hb3 hgr hbr (by assumption) | go_keep)
        (first | (go_at_call 9; refine (hrl _).mono ?_; rintro e w3 ⟨rfl, hb3⟩))
      go_wp2
      go_roundw
      case rel => exact ⟨k + 1, by omega, by go_num, (hq.drew.trans (hb3.mono hq1))⟩
      case measure => simp [intOf]; omega
    · obtain rfl : k = l.length := by omega
      go_wp2_with (go_at_call 7; refine (hk _ hwr).mono ?_; rintro e w3 ⟨rfl, hb3⟩)
      go_ret
      exact ⟨rfl, hwr.trans (hb3.mono hwr.size)⟩

/-- The law's walk. -/
theorem lines_law {w : World} {v : Value} {l : List Hp} (hP : Pow w) (h : HopsIn w v l) (hl : l.length ≤ 9223372036854775807) (hk : KindsOk l) :
    Calls Tryd.prog 3 #[v] w fun e w' => e = .returned (.bool true) ∧ Below w.heap.size w w' := by
  cases hs : smallB l with
  | false => exact lines_no hP h hl hs
  | true => obtain ⟨h1, h2⟩ := ok_of_small hs hk; exact lines_yes hP h h1 h2 hs
end Go.Proofs.YthjoohdmckfihaaDoor
