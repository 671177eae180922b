import Derived.Test.YthjoohdmckfihaaDoorL7
namespace Go.Proofs.YthjoohdmckfihaaDoor
open Go.RowKit Go.Lib Go.Sort

/-- Is it a hop of a kind, at a region? -/
def hitB (kind region : Int) (x : Hp) : Bool := x.kind == kind && (region == 0 || x.region == region)
/-- The act of the first one. -/
def firstV (l : List Hp) (kind region : Int) : Int × Bool := match l.find? (hitB kind region) with | none => (0, false) | some x => (x.act, true)

theorem ret2 {p : Int × Bool} {a : Int} {b : Bool} (h : p = (a, b)) : Ending.returned (.tuple #[.int .i64 a, .bool b]) = Ending.returned (.tuple #[.int .i64 p.1, .bool p.2]) := by rw [h]

set_option maxRecDepth 100000 in
/-- trail.First. -/
theorem tfirst_any {w : World} {v : Value} {l : List Hp} (h : HopsIn w v l) (hl : l.length ≤ 100) (kind region : Int) :
    Calls Tryd.prog 10 #[v, .int .i64 kind, .int .i64 region] w fun e w' => e = .returned (.tuple #[.int .i64 (firstV l kind region).1, .bool (firstV l kind region).2]) ∧ Below w.heap.size w w' := by
  have hb0 := ((Below.refl w.heap.size w).alloc (Nat.le_refl _) (.cells #[.int .i64 kind] 28)).alloc (by simp) (.cells #[.int .i64 region] 3)
  have hin := h.below hb0
  have hcon := index_any hin hl (hitB kind region) 22 #[.pointer (some ⟨w.heap.size, 0, none⟩), .pointer (some ⟨w.heap.size + 1, 0, none⟩)] enter22 (fun W x hb => by
    have h1 : ((w.alloc (.cells #[.int .i64 kind] 28)).alloc (.cells #[.int .i64 region] 3)).cell? ⟨w.heap.size, 0, none⟩ = some (.int .i64 kind) := Lib.cell?_alloc_some _ (by simp)
    have h2 : ((w.alloc (.cells #[.int .i64 kind] 28)).alloc (.cells #[.int .i64 region] 3)).cell? ⟨w.heap.size + 1, 0, none⟩ = some (.int .i64 region) := by
      simp
    have hz := hb.size
    simp at hz
    exact first1 x kind region w.heap.size (w.heap.size + 1) W (by omega) (by omega) ((hb.cell (p := ⟨w.heap.size, 0, none⟩) (by simp; omega)).trans h1) ((hb.cell (p := ⟨w.heap.size + 1, 0, none⟩) (by simp)).trans h2))
  cases hf : l.find? (hitB kind region) with
  | none =>
    have hv : firstV l kind region = (0, false) := by unfold firstV; rw [hf]
    rw [hv]
    rw [idx_none hf] at hcon
    obtain ⟨a, c, rfl, h⟩ := h
    clear h hin hf hv
    go_enter Tryd.func10, Tryd.ntmps10
    go_wp2_with (go_at_call 21; refine hcon.mono ?_; rintro e w1 ⟨rfl, hb1⟩)
    go_ret2
    exact ⟨rfl, hb0.trans (hb1.mono hb0.size)⟩
  | some x =>
    have hv : firstV l kind region = (x.act, true) := by unfold firstV; rw [hf]
    rw [hv]
    obtain ⟨k, hk, hi, hx, _⟩ := idx_some hf
    rw [hi] at hcon
    obtain ⟨a, c, rfl, h⟩ := h
    have HH := Lib.hid h
    have HX := Lib.hid hx
    have hk0 : (0 : Int) ≤ (k : Int) := by omega
    have hk1 : (k : Int) < (l.length : Int) := by omega
    clear h hin hf hv hx
    go_enter Tryd.func10, Tryd.ntmps10
    go_wp2_with (go_at_call 21; refine hcon.mono ?_; rintro e w1 ⟨rfl, hb1⟩; have hw1 := hb0.trans (hb1.mono hb0.size); obtain ⟨b, off, rfl, hb, _, l21, _⟩ := hopCellsAny hw1 HH.out k hk; rw [HX.out] at l21)
    go_ret2
    exact ⟨rfl, hw1⟩

set_option maxRecDepth 100000 in
/-- ref.First. -/
theorem rfirst_any {w : World} {v : Value} {l : List Hp} (h : HopsIn w v l) (hl : l.length ≤ 100) (kind region : Int) :
    Calls Tryd.prog 11 #[v, .int .i64 kind, .int .i64 region] w fun e w' => e = .returned (.tuple #[.int .i64 (firstV l kind region).1, .bool (firstV l kind region).2]) ∧ Below w.heap.size w w' := by
  obtain ⟨a, c, rfl, h⟩ := h
  have HH := Lib.hid h
  clear h
  go_enter Tryd.func11, Tryd.ntmps11
  go_wp2
  go_loopw [8] (fun i wr => ∃ k : Nat, k ≤ l.length ∧ i = .int .i64 k ∧ Hid (∀ j, j < k → hitB kind region l[j]! = false) ∧ Below w.heap.size w wr)
    (fun i _ => l.length - (intOf i).toNat)
  case atStart => exact ⟨0, Nat.zero_le _, rfl, fun j hj => absurd hj (Nat.not_lt_zero _), Below.refl _ _⟩
  case round =>
    obtain ⟨k, hk, rfl, ho, hq⟩ := hrel
    have hq1 := hq.size
    by_cases hlt : k < l.length
    · obtain ⟨b, off, rfl, hb, l20, l21, l22, _, _, _⟩ := hopCellsAny hq HH.out k hlt
      have hyes : hitB kind region l[k]! = true → firstV l kind region = (l[k]!.act, true) := fun hh => by
        unfold firstV
        rw [List.find?_eq_some_iff_getElem.2 ⟨hh, k, hlt, by rw [getElem!_pos l k hlt], fun j hj => by have := ho.out j hj; rw [getElem!_pos l j (by omega)] at this; simp [this]⟩]
      have hno : hitB kind region l[k]! = false → ∀ j, j < k + 1 → hitB kind region l[j]! = false := fun hh j hj => by
        by_cases e : j = k
        · subst e; exact hh
        · exact ho.out j (by omega)
      have HY := Lib.hid hyes
      have HN := Lib.hid hno
      clear hyes hno
      have hk0 : (0 : Int) ≤ (k : Int) := by omega
      have hk1 : (k : Int) < (l.length : Int) := by omega
      generalize l[k]! = x at *
      cases t1 : (x.kind == kind) with
      | false =>
        go_wp2
        go_roundw
        case rel => exact ⟨k + 1, by omega, by go_num, HN.out (by unfold hitB; rw [t1]; rfl), hq⟩
        case measure => simp [intOf]; omega
      | true =>
        cases t2 : (region == 0) with
        | true =>
          have hv := HY.out (by unfold hitB; rw [t1, t2]; rfl)
          have HV := Lib.hid hv
          clear hv
          go_wp2
          go_ret2
          exact ⟨ret2 HV.out, hq⟩
        | false =>
          cases t3 : (x.region == region) with
          | true =>
            have hv := HY.out (by unfold hitB; rw [t1, t2, t3]; rfl)
            have HV := Lib.hid hv
            clear hv
            go_wp2
            go_ret2
            exact ⟨ret2 HV.out, hq⟩
          | false =>
            go_wp2
            go_roundw
            case rel => exact ⟨k + 1, by omega, by go_num, HN.out (by unfold hitB; rw [t1, t2, t3]; rfl), hq⟩
            case measure => simp [intOf]; omega
    · obtain rfl : k = l.length := by omega
      have hv : firstV l kind region = (0, false) := by
        unfold firstV
        rw [List.find?_eq_none.2 (fun x hx => by obtain ⟨j, hj, rfl⟩ := List.getElem_of_mem hx; have := ho.out j hj; rw [getElem!_pos l j hj] at this; simp [this])]
      have HV := Lib.hid hv
      clear hv
      go_wp2
      go_ret2
      exact ⟨ret2 HV.out, hq⟩
end Go.Proofs.YthjoohdmckfihaaDoor
