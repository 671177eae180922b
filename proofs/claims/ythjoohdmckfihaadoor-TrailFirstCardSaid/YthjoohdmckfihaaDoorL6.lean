import Derived.Test.YthjoohdmckfihaaDoorL5
import Derived.Test.YthjoohdmckfihaaDoorL0
namespace Go.Proofs.YthjoohdmckfihaaDoor
open Go.RowKit Go.Lib Go.Sort

/-- The chapter's three hops. -/
def knownL : List Hp := [⟨1, 3, 1, 0, 0, ⟨#[]⟩⟩, ⟨2, 5, 2, 1, 0, ⟨#[]⟩⟩, ⟨4, 8, 2, 0, 0, ⟨#[97]⟩⟩]

theorem known_ok : ∀ j, j < knownL.length → knownL[j]!.Ok := by
  intro j hj
  have : j = 0 ∨ j = 1 ∨ j = 2 := by simp [knownL] at hj; omega
  rcases this with rfl | rfl | rfl <;> exact ⟨by decide, by decide, by decide, by decide, by decide, by decide⟩

theorem known_spr : spr knownL = [(2, 2)] := by decide +kernel
theorem known_lines : knownL.map lineL = [[51, 32, 112, 117, 98, 108, 105, 115, 104, 101, 100, 32, 49], [53, 32, 99, 97, 109, 101, 32, 50, 32, 49], [56, 32, 112, 111, 108, 108, 101, 100, 32, 50, 32, 97]] := by decide +kernel

def knownO : Obj := .cells #[.int .i64 1, .int .i64 3, .int .i64 1, .int .i64 0, .int .i64 0, .string ⟨#[]⟩, .int .i64 2, .int .i64 5, .int .i64 2, .int .i64 1, .int .i64 0, .string ⟨#[]⟩, .int .i64 4, .int .i64 8, .int .i64 2, .int .i64 0, .int .i64 0, .string ⟨#[97]⟩] 31

theorem known_in (w : World) : HopsIn (w.alloc knownO) (.slice (some ⟨w.heap.size, 0, none⟩) 3 3) knownL := by
  refine ⟨_, _, rfl, fun _ => ⟨w.heap.size, 0, rfl, by simp, fun j hj i v hv => ?_⟩⟩
  have h : ∀ n, (w.alloc knownO).cell? ⟨w.heap.size, n, none⟩ = (#[.int .i64 1, .int .i64 3, .int .i64 1, .int .i64 0, .int .i64 0, .string ⟨#[]⟩, .int .i64 2, .int .i64 5, .int .i64 2, .int .i64 1, .int .i64 0, .string ⟨#[]⟩, .int .i64 4, .int .i64 8, .int .i64 2, .int .i64 0, .int .i64 0, .string ⟨#[97]⟩] : Array Value)[n]? :=
    fun n => cell_of_row _ _ n _ 31 (0, 0) (heap_alloc_new w knownO)
  rw [h]
  have hj' : j = 0 ∨ j = 1 ∨ j = 2 := by simp [knownL] at hj; omega
  have hi : i < 6 := by
    have := (List.getElem?_eq_some_iff.1 hv).1
    simpa [Hp.enc] using this
  have hi' : i = 0 ∨ i = 1 ∨ i = 2 ∨ i = 3 ∨ i = 4 ∨ i = 5 := by omega
  rcases hj' with rfl | rfl | rfl <;> rcases hi' with rfl | rfl | rfl | rfl | rfl | rfl <;> (simp [knownL, Hp.enc] at hv; subst hv; rfl)

set_option maxRecDepth 100000 in
/-- the law's known. -/
theorem known_any {w : World} (hP : Pow w) : Calls Tryd.prog 7 #[] w fun e w' => e = .returned (.bool true) ∧ Below w.heap.size w w' := by
  have hb0 := (Below.refl w.heap.size w).alloc (Nat.le_refl _) knownO
  have hin := known_in w
  have hLines := lines_any (hP.below hb0) hin (by decide) known_ok
  have hmap : knownL.map lineV = [.string ⟨#[51, 32, 112, 117, 98, 108, 105, 115, 104, 101, 100, 32, 49]⟩, .string ⟨#[53, 32, 99, 97, 109, 101, 32, 50, 32, 49]⟩, .string ⟨#[56, 32, 112, 111, 108, 108, 101, 100, 32, 50, 32, 97]⟩] := by
    have : knownL.map lineV = (knownL.map lineL).map (fun x => Value.string (str x)) := by rw [List.map_map]; rfl
    rw [this, known_lines]; rfl
  rw [hmap, show knownL.length = 3 from rfl] at hLines
  have hSpread := fun W (hb : Below (w.alloc knownO).heap.size (w.alloc knownO) W) => spread_any (hin.below hb) (by decide) known_ok
  rw [known_spr] at hSpread
  clear hmap hin
  unfold knownO at hb0 hLines hSpread
  have hEq := eqR
  have hGd := guardR
  go_enter Tryd.func7, Tryd.ntmps7
  go_wp2_with (first
    | (go_at_call 8; refine hLines.mono ?_; rintro e w1 ⟨u, rfl, hrow, hb1⟩; obtain ⟨a, c, rfl, hc⟩ := own_form hrow; obtain ⟨g, rfl, hg1, hg2, hcell⟩ := hc (by decide))
    | (go_at_call 12; refine (hSpread _ hb1).mono ?_; rintro e w2 ⟨u2, rfl, hrow2, hb2⟩; obtain ⟨a2, c2, rfl, hc2⟩ := own_form hrow2; obtain ⟨g2, rfl, hg3, hg4, hcell2⟩ := hc2 (by decide); have q0 : w2.cell? ⟨g, 0, none⟩ = some (.string ⟨#[51, 32, 112, 117, 98, 108, 105, 115, 104, 101, 100, 32, 49]⟩) := (hb2.cell (p := ⟨g, 0, none⟩) hg2).trans (hcell 0 (by decide)); have q1 : w2.cell? ⟨g, 1, none⟩ = some (.string ⟨#[53, 32, 99, 97, 109, 101, 32, 50, 32, 49]⟩) := (hb2.cell (p := ⟨g, 1, none⟩) hg2).trans (hcell 1 (by decide)); have q2 : w2.cell? ⟨g, 2, none⟩ = some (.string ⟨#[56, 32, 112, 111, 108, 108, 101, 100, 32, 50, 32, 97]⟩) := (hb2.cell (p := ⟨g, 2, none⟩) hg2).trans (hcell 2 (by decide)); have q3 : w2.cell? ⟨g2, 0, none⟩ = some (.int .i64 2) := hcell2 0 (by decide); have q4 : w2.cell? ⟨g2, 1, none⟩ = some (.int .i64 2) := hcell2 1 (by decide); clear hcell hcell2 hc2))
  go_ret
  exact ⟨rfl, (hb0.trans (hb1.mono hb0.size)).trans (hb2.mono (Nat.le_trans hb0.size hb1.size))⟩
end Go.Proofs.YthjoohdmckfihaaDoor
