import Derived.Test.YthjoohdmckfihaaDoorProg
import Derived.WalkKit
import Derived.Lib.Hide
import Derived.Deep.QuietTactic
import Derived.BigQuiet
namespace Go.Proofs.YthjoohdmckfihaaDoor
open Go.RowKit

/-- A hop. -/
structure Hp where
  kind : Int
  act : Int
  region : Int
  src : Int
  code : Int
  device : ByteArray
instance : Inhabited Hp := ⟨⟨0, 0, 0, 0, 0, ⟨#[]⟩⟩⟩

def Hp.enc (x : Hp) : List Value := [.int .i64 x.kind, .int .i64 x.act, .int .i64 x.region, .int .i64 x.src, .int .i64 x.code, .string x.device]

theorem spread1 (x : Hp) (w : World) :
    Calls Tryd.prog 23 #[.agg #[.int .i64 x.kind, .int .i64 x.act, .int .i64 x.region, .int .i64 x.src, .int .i64 x.code, .string x.device]] w
      fun e w' => e = .returned (.bool (x.kind == 1)) ∧ Below w.heap.size w w' := by
  go_enter Tryd.func23, Tryd.ntmps23
  go_wp2
  go_ret
  exact ⟨rfl, (Below.refl _ w).alloc (Nat.le_refl _) _⟩

theorem first1 (x : Hp) (kind region : Int) (B B' : Nat) (w : World) (hB : B < w.heap.size) (hB' : B' < w.heap.size) (hc : w.cell? ⟨B, 0, none⟩ = some (.int .i64 kind)) (hc' : w.cell? ⟨B', 0, none⟩ = some (.int .i64 region)) :
    Calls Tryd.prog 22 #[.agg #[.int .i64 x.kind, .int .i64 x.act, .int .i64 x.region, .int .i64 x.src, .int .i64 x.code, .string x.device], .pointer (some ⟨B, 0, none⟩), .pointer (some ⟨B', 0, none⟩)] w
      fun e w' => e = .returned (.bool (x.kind == kind && (region == 0 || x.region == region))) ∧ Below w.heap.size w w' := by
  have hne : B ≠ w.heap.size := by omega
  have hne' : B' ≠ w.heap.size := by omega
  go_enter Tryd.func22, Tryd.ntmps22
  go_wp2
  all_goals go_ret
  all_goals refine ⟨?_, (Below.refl _ w).alloc (Nat.le_refl _) _⟩
  all_goals simp_all
end Go.Proofs.YthjoohdmckfihaaDoor
