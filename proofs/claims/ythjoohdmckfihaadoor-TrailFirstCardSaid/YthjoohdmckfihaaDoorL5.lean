import Derived.Test.YthjoohdmckfihaaDoorL4
namespace Go.Proofs.YthjoohdmckfihaaDoor
open Go.RowKit Go.Lib Go.Sort

theorem info9 : (Tryd.prog.info? 9).map (fun i => (i.zero, i.size, i.bytes)) = some (some (.string ⟨#[]⟩), 1, 16) := by kernel_rfl

def lineV (x : Hp) : Value := .string (str (lineL x))

theorem map_take_succ {α : Type} (f : α → Value) (l : List α) (k : Nat) (h : k < l.length) : (l.take (k + 1)).map f = (l.take k).map f ++ [f l[k]] := by
  rw [List.take_succ_eq_append_getElem h, List.map_append]; rfl

theorem own_below {w w1 : World} {base : Nat} {e : TypeId} {size : Nat} {v : Value} {n : Nat} {xs : List Value} (h : w.ownsRow base e size v n xs) (hb : Below w.heap.size w w1) : w1.ownsRow base e size v n xs :=
  h.kept (row := none) ⟨hb.os, hb.tape, hb.output, hb.size, fun k hk _ => hb.block k hk⟩ (by cases v.ownBlock <;> simp)

set_option maxRecDepth 100000 in
/-- trail.Lines. -/
theorem lines_any {w : World} {v : Value} {l : List Hp} (hP : Pow w) (h : HopsIn w v l) (hl : l.length ≤ 100) (hok : ∀ j, j < l.length → l[j]!.Ok) :
    Calls Tryd.prog 8 #[v] w fun e w' => ∃ u, e = .returned u ∧ w'.ownsRow w.heap.size 9 1 u l.length (l.map lineV) ∧ Below w.heap.size w w' := by
  obtain ⟨a, c, rfl, h⟩ := h
  obtain ⟨i0, hi, hz0, hz1, hz2⟩ := info_parts info9
  have HH := Lib.hid h
  have HK := Lib.hid hok
  clear h hok
  go_enter Tryd.func8, Tryd.ntmps8
  go_wp2
  go_loopw [2, 7] (fun o i wr => ∃ k : Nat, k ≤ l.length ∧ i = .int .i64 k ∧ wr.ownsRow w.heap.size 9 1 o k ((l.take k).map lineV) ∧ Below w.heap.size w wr)
    (fun _ i _ => l.length - (intOf i).toNat)
  case atStart => exact ⟨0, Nat.zero_le _, rfl, by simpa using World.ownsRow_nil _ _ _ _, Below.refl _ _⟩
  case round =>
    obtain ⟨k, hk, rfl, ho, hq⟩ := hrel
    have hq1 := hq.size
    by_cases hlt : k < l.length
    · obtain ⟨b, off, rfl, hb, hc⟩ := HH.out (by omega)
      obtain ⟨l20, l21, l22, l23, l24, l25⟩ := hopCells (hc := hc) hq hb k hlt
      have hox := HK.out k hlt
      have htk := map_take_succ lineV l k hlt
      rw [← getElem!_pos l k hlt] at htk
      clear hc
      generalize l[k]! = x at l20 l21 l22 l23 l24 l25 hox htk
      have HT := Lib.hid htk
      clear htk
      have hbo := hq.alloc hq.size (.cells #[.int .i64 x.kind, .int .i64 x.act, .int .i64 x.region, .int .i64 x.src, .int .i64 x.code, .string x.device] 31)
      have hcl := line_any x hP hbo hox
      clear hox
      unfold lineV at *
      generalize str (lineL x) = L at *
      go_wp2_with (first
        | (go_at_call 19; refine hcl.mono ?_; rintro e w1 ⟨rfl, hb1⟩; have ho1 := own_below (ho.alloc _) hb1; have hw1 := hbo.trans (hb1.mono hbo.size); have hs1 := hw1.size)
        | (at_builtin; refine wpList_append_own _ rfl _ _ 25 rfl w.heap.size 9 i0 _ 1 16 Tryd.underlying25 hi hz0 hz1 hz2 rfl (by decide) _ _ _ rfl (ho1.alloc _) ⟨w1.heap.size, 0, none⟩ 1 1 [.string L] rfl rfl ?c1 ?c2 ?c3 ?c4 ?c5 ?_))
      case c1 => exact cell_one_new _ _ _
      case c2 => intro u hu; simp at hu; subst hu; rfl
      case c3 => unfold maxLen; omega
      case c4 => omega
      case c5 => simp; omega
      intro v4 w4 ho4 hg4 _
      go_wp2
      go_roundw
      case rel => exact ⟨k + 1, by omega, by go_num, by rw [HT.out, List.map_take]; exact ho4, (hw1.alloc hs1 _).grown hg4 (by simp; omega) (fun j hj => (ho1.lt j hj).1)⟩
      case measure => simp [intOf]; omega
    · obtain rfl : k = l.length := by omega
      rw [List.take_length] at ho
      go_wp2
      go_ret
      exact ⟨_, rfl, ho, hq⟩

/-- Is a hop of small numbers? -/
def okB (x : Hp) : Bool := decide (-1099511627776 ≤ x.act ∧ x.act ≤ 1099511627776 ∧ -1099511627776 ≤ x.region ∧ x.region ≤ 1099511627776 ∧ -1099511627776 ≤ x.src ∧ x.src ≤ 1099511627776 ∧ -1000 ≤ x.code ∧ x.code ≤ 1000 ∧ x.device.size ≤ 300)
def smallB (l : List Hp) : Bool := decide (l.length ≤ 100) && l.all okB

theorem hopCellsAny {w wr : World} {a : Option Addr} {l : List Hp} (hnx : Below w.heap.size w wr)
    (h : 0 < l.length → ∃ b off, a = some ⟨b, off, none⟩ ∧ b < w.heap.size ∧ ∀ j, j < l.length → ∀ i v, (l[j]!.enc)[i]? = some v → w.cell? ⟨b, off + j * 6 + i, none⟩ = some v) (k : Nat) (hk : k < l.length) :
    ∃ b off, a = some ⟨b, off, none⟩ ∧ b < w.heap.size ∧ wr.cell? ⟨b, off + k * 6, none⟩ = some (.int .i64 l[k]!.kind) ∧ wr.cell? ⟨b, off + k * 6 + 1, none⟩ = some (.int .i64 l[k]!.act) ∧ wr.cell? ⟨b, off + k * 6 + 2, none⟩ = some (.int .i64 l[k]!.region) ∧
    wr.cell? ⟨b, off + k * 6 + 3, none⟩ = some (.int .i64 l[k]!.src) ∧ wr.cell? ⟨b, off + k * 6 + 4, none⟩ = some (.int .i64 l[k]!.code) ∧ wr.cell? ⟨b, off + k * 6 + 5, none⟩ = some (.string l[k]!.device) := by
  obtain ⟨b, off, rfl, hb, hc⟩ := h (by omega)
  exact ⟨b, off, rfl, hb, hopCells (hc := hc) hnx hb k hk⟩

set_option maxRecDepth 100000 in
/-- the law's small. -/
theorem small_any {w : World} {v : Value} {l : List Hp} (h : HopsIn w v l) (hl : l.length ≤ 9223372036854775807) :
    Calls Tryd.prog 6 #[v] w fun e w' => e = .returned (.bool (smallB l)) ∧ Below w.heap.size w w' := by
  obtain ⟨a, c, rfl, h⟩ := h
  have HH := Lib.hid h
  clear h
  go_enter Tryd.func6, Tryd.ntmps6
  go_wp2
  go_loopw [3] (fun i wr => ∃ k : Nat, k ≤ l.length ∧ k ≤ 101 ∧ i = .int .i64 k ∧ Hid ((l.take k).all okB = true) ∧ Below w.heap.size w wr)
    (fun i _ => 101 - (intOf i).toNat)
  case atStart => exact ⟨0, Nat.zero_le _, by omega, rfl, rfl, Below.refl _ _⟩
  case round =>
    obtain ⟨k, hk, hk1, rfl, ho, hq⟩ := hrel
    have hq1 := hq.size
    by_cases hlt : k < l.length
    · by_cases h100 : k ≤ 100
      · obtain ⟨b, off, rfl, hb, l20, l21, l22, l23, l24, l25⟩ := hopCellsAny hq HH.out k hlt
        have htk : (l.take (k + 1)).all okB = okB l[k]! := by rw [List.take_succ_eq_append_getElem hlt, List.all_append, ho.out, getElem!_pos l k hlt]; simp
        have hall : okB l[k]! = false → smallB l = false := fun hb => by
          unfold smallB
          rw [Bool.and_eq_false_iff]
          refine .inr ?_
          rw [List.all_eq_false]
          exact ⟨l[k], List.getElem_mem hlt, by rw [← getElem!_pos l k hlt, hb]; simp⟩
        have HT := Lib.hid htk
        have HA := Lib.hid hall
        clear htk hall
        generalize l[k]! = x at *
        go_wp2
        all_goals first
          | (go_ret; exact ⟨congrArg (fun b => Ending.returned (.bool b)) (HA.out (decide_eq_false (by omega))).symm, hq.alloc hq1 _⟩)
          | (go_roundw
             case rel => exact ⟨k + 1, by omega, by omega, by go_num, by show (l.take (k + 1)).all okB = true; rw [HT.out]; exact decide_eq_true (by omega), hq.alloc hq1 _⟩
             case measure => simp [intOf]; omega)
      · have hs : smallB l = decide ((l.length : Int) ≤ 100) := by unfold smallB; rw [decide_eq_false (by omega), decide_eq_false (by omega)]; rfl
        have HS := Lib.hid hs
        clear hs
        have h1 : ¬ ((k : Int) ≤ 100) := by omega
        go_wp2
        go_ret
        exact ⟨congrArg (fun b => Ending.returned (.bool b)) HS.out.symm, hq⟩
    · obtain rfl : k = l.length := by omega
      have hs : smallB l = decide ((l.length : Int) ≤ 100) := by unfold smallB; rw [show l.all okB = true by have := ho.out; rwa [List.take_length] at this, Bool.and_true]; exact decide_eq_decide.2 (by omega)
      have HS := Lib.hid hs
      clear hs
      go_wp2
      go_ret
      exact ⟨congrArg (fun b => Ending.returned (.bool b)) HS.out.symm, hq⟩
end Go.Proofs.YthjoohdmckfihaaDoor
