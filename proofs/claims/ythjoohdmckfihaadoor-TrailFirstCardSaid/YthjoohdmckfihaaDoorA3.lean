import Derived.Test.YthjoohdmckfihaaDoorA2
namespace Go.Proofs.YthjoohdmckfihaaDoor
open Go.RowKit Go.Maps Go.Shelf Go.Lib Go.Sort

/-- Hops in memory: a slice's value reads as a list. -/
def HopsIn (w : World) (v : Value) (l : List Hp) : Prop :=
  ∃ a c, v = .slice a l.length c ∧ (0 < l.length → ∃ b off, a = some ⟨b, off, none⟩ ∧ b < w.heap.size ∧
    ∀ j, j < l.length → ∀ i v, (l[j]!.enc)[i]? = some v → w.cell? ⟨b, off + j * 6 + i, none⟩ = some v)

theorem HopsIn.below {w w' : World} {v : Value} {l : List Hp} (h : HopsIn w v l) (hb : Below w.heap.size w w') : HopsIn w' v l := by
  obtain ⟨a, c, rfl, h⟩ := h
  refine ⟨a, c, rfl, fun h0 => ?_⟩
  obtain ⟨b, off, rfl, h1, h2⟩ := h h0
  exact ⟨b, off, rfl, Nat.lt_of_lt_of_le h1 hb.size, fun j hj i v hv => (hb.cell (p := ⟨b, off + j * 6 + i, none⟩) h1).trans (h2 j hj i v hv)⟩

theorem index_empty (a : Option Addr) (c g : Nat) (lb : Array Value) (w : World) :
    Calls Tryd.prog 21 #[.slice a 0 c, .func (.func g) #[] lb] w fun e w' => e = .returned (.int .i64 (-1)) ∧ w = w' := by
  go_enter Tryd.func21, Tryd.ntmps21
  go_wp2
  refine wp_loop_rounds 1 ?_
  rw [rounds_succ]
  go_wp2
  go_ret
  exact ⟨rfl, rfl⟩

/-- slices.IndexFunc over hops, by a closure that answers p. -/
theorem index_any {w : World} {v : Value} {l : List Hp} (h : HopsIn w v l) (hl : l.length ≤ 100) (p : Hp → Bool) (g : Nat) (lb : Array Value) (eg : ∀ args w, (callFunc g args).run Tryd.prog w = .ok (.enter g args) w)
    (hp : ∀ (W : World) (x : Hp), Below w.heap.size w W → Calls Tryd.prog g (#[.agg x.enc.toArray] ++ lb) W fun e w' => e = .returned (.bool (p x)) ∧ Below W.heap.size W w') :
    Calls Tryd.prog 21 #[v, .func (.func g) #[] lb] w fun e w' => e = .returned (.int .i64 (Lib.idxBy (fun _ y => p y) l default)) ∧ Below w.heap.size w w' := by
  obtain ⟨a, c, rfl, h⟩ := h
  by_cases h0 : 0 < l.length
  · obtain ⟨b, off, rfl, hb, hc⟩ := h h0
    have := AnyQ.slices_IndexFunc Tryd.idx 6 Tryd.isAgg31 Tryd.sizeOf31 Hp.enc (fun _ => rfl) p g lb eg b off l.length c l w
      (fun W x hb => (hp W x hb).mono fun _ _ ⟨h1, h2⟩ => ⟨h1, hb.trans (h2.mono hb.size)⟩) (Nat.le_refl _) (by omega) hb hc
    rw [List.take_length] at this
    exact this
  · obtain rfl : l = [] := List.eq_nil_of_length_eq_zero (by omega)
    exact (index_empty a c g lb w).mono fun e w' ⟨h1, h2⟩ => ⟨h1, h2 ▸ Below.refl _ _⟩

theorem enter23 : ∀ args w, (callFunc 23 args).run Tryd.prog w = .ok (.enter 23 args) w := enters_of Tryd.func23 (by kernel_rfl) rfl
theorem enter22 : ∀ args w, (callFunc 22 args).run Tryd.prog w = .ok (.enter 22 args) w := enters_of Tryd.func22 (by kernel_rfl) rfl

/-- What Spread tells. -/
def spr (l : List Hp) : List (Int × Int) := match l.find? (fun h => h.kind == 1) with | none => [] | some l0 => sprOf l0 l

theorem idx_none {l : List Hp} {p : Hp → Bool} (h : l.find? p = none) : Lib.idxBy (fun _ y => p y) l default = -1 := by
  have := Lib.idxBy_miss (fun _ y => p y) l l.length (default : Hp) (fun j hj => by
    have := List.find?_eq_none.1 h (l[j]) (List.getElem_mem hj)
    rw [getElem!_pos l j hj]
    simpa using this)
  rwa [List.take_length] at this
theorem idx_some {l : List Hp} {p : Hp → Bool} {x : Hp} (h : l.find? p = some x) : ∃ k : Nat, k < l.length ∧ Lib.idxBy (fun _ y => p y) l default = k ∧ l[k]! = x ∧ p l[k]! = true ∧ ∀ j, j < k → p l[j]! = false := by
  obtain ⟨hp, k, hk, hx, hne⟩ := List.find?_eq_some_iff_getElem.1 h
  have h1 : p l[k]! = true := by rw [getElem!_pos l k hk, hx]; exact hp
  have h2 : ∀ j, j < k → p l[j]! = false := fun j hj => by
    have := hne j hj
    rw [getElem!_pos l j (by omega)]
    simpa using this
  have := Lib.idxBy_hit (fun _ y => p y) l l.length k (default : Hp) hk (Nat.le_refl _) h1 h2
  rw [List.take_length] at this
  exact ⟨k, hk, this, by rw [getElem!_pos l k hk, hx], h1, h2⟩

theorem spread_none {w : World} {v : Value} {l : List Hp} (h : HopsIn w v l) (hl : l.length ≤ 100) (hn : l.find? (fun h => h.kind == 1) = none) :
    Calls Tryd.prog 12 #[v] w fun e w' => e = .returned (.slice none 0 0) ∧ Below w.heap.size w w' := by
  have hcon := index_any h hl (fun h => h.kind == 1) 23 #[] enter23 (fun W x _ => spread1 x W)
  rw [idx_none hn] at hcon
  obtain ⟨a, c, rfl, h⟩ := h
  clear h hn
  go_enter Tryd.func12, Tryd.ntmps12
  go_wp2_with (go_at_call 21; refine hcon.mono ?_; rintro e w1 ⟨rfl, hb1⟩)
  go_ret
  exact ⟨rfl, hb1⟩

/-- Spread, of any few hops of small numbers. -/
theorem spread_any {w : World} {v : Value} {l : List Hp} (h : HopsIn w v l) (hl : l.length ≤ 100) (hok : ∀ j, j < l.length → l[j]!.Ok) :
    Calls Tryd.prog 12 #[v] w fun e w' => ∃ u, e = .returned u ∧ w'.ownsRow w.heap.size 37 2 u (spr l).length ((spr l).flatMap encR) ∧ Below w.heap.size w w' := by
  cases hf : l.find? (fun h => h.kind == 1) with
  | none =>
    refine (spread_none h hl hf).mono fun e w' ⟨h1, h2⟩ => ⟨_, h1, ?_, h2⟩
    have : spr l = [] := by unfold spr; rw [hf]
    rw [this]
    exact World.ownsRow_nil _ _ _ _
  | some l0 =>
    obtain ⟨p, hp, _, hx, hp1, hp0⟩ := idx_some hf
    have hs : spr l = sprOf l[p]! l := by unfold spr; rw [hf, hx]
    rw [hs]
    obtain ⟨a, c, rfl, h⟩ := h
    obtain ⟨b, off, rfl, hb, hc⟩ := h (by omega)
    exact spread_walk b off c l w hl hok hb hc p hp hp1 hp0
end Go.Proofs.YthjoohdmckfihaaDoor
