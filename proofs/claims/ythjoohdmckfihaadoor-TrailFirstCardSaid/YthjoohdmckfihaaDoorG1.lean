import Derived.WalkKit
import Derived.Laws.OwnMore
import Derived.Laws.AppendOwnNone
import Derived.Lib.Hide
import Derived.Deep.RegionHeld3
import Derived.Deep.AppendLies
/-! Small laws of mine over any program: what lies below a block, rows that are owned, appends from whatever source, cuts of a slice. -/
namespace Go.Proofs.YthjoohdmckfihaaDoor
open Go.RowKit

theorem own_form' {w : World} {base : Nat} {e : TypeId} {size : Nat} {v : Value} {n : Nat} {xs : List Value} (h : w.ownsRow base e size v n xs) :
    ∃ a c, v = .slice a n c ∧ n ≤ c ∧ (a = none → c = 0) ∧ (0 < n → ∃ g, a = some ⟨g, 0, none⟩ ∧ base ≤ g ∧ g < w.heap.size ∧ ∀ j, j < n * size → w.cell? ⟨g, j, none⟩ = xs[j]?) := by
  rcases h.2 with ⟨rfl, rfl⟩ | ⟨g, cap, cur, rfl, hb, hg, hr⟩
  · exact ⟨none, 0, rfl, Nat.le_refl _, fun _ => rfl, fun h => absurd h (Nat.lt_irrefl 0)⟩
  · exact ⟨some ⟨g, 0, none⟩, cap, rfl, hr.1, fun h => (by cases h), fun _ => ⟨g, rfl, hb, (Array.getElem?_eq_some_iff.1 hg).1, fun j hj => h.cellAt j hj⟩⟩

/-- Where a row's cells are to be found: at an address, if there are any. -/
def CellsIn (w : World) (A : Option Addr) (cs : List Value) : Prop :=
  0 < cs.length → ∃ b off, A = some ⟨b, off, none⟩ ∧ b < w.heap.size ∧ ∀ i u, cs[i]? = some u → w.cell? ⟨b, off + i, none⟩ = some u

theorem CellsIn.below {w w' : World} {A : Option Addr} {cs : List Value} (h : CellsIn w A cs) (hb : Below w.heap.size w w') : CellsIn w' A cs := fun h0 => by
  obtain ⟨b, off, rfl, h1, h2⟩ := h h0
  exact ⟨b, off, rfl, Nat.lt_of_lt_of_le h1 hb.size, fun i u hu => (hb.cell (p := ⟨b, off + i, none⟩) h1).trans (h2 i u hu)⟩

/-- The same, of an older world. -/
theorem CellsIn.later {w0 w w' : World} {A : Option Addr} {cs : List Value} (h : CellsIn w A cs) (hs : w.heap.size ≤ w0.heap.size) (hb : Below w0.heap.size w w') : CellsIn w' A cs := h.below (hb.mono hs)

theorem CellsIn.add {w : World} {A : Option Addr} {cs : List Value} (h : CellsIn w A cs) : ∀ ad, A = some ad → ∀ j u, cs[j]? = some u → w.cell? (ad.add j) = some u := by
  intro ad hA j u hu
  have h0 : 0 < cs.length := by have := (List.getElem?_eq_some_iff.1 hu).1; omega
  obtain ⟨b, off, hA', _, h2⟩ := h h0
  rw [hA] at hA'
  obtain rfl := Option.some.inj hA'
  have : (⟨b, off, none⟩ : Addr).add j = ⟨b, off + j, none⟩ := by unfold Addr.add; split <;> simp_all
  rw [this]; exact h2 j u hu

theorem cells_of_own {w : World} {base : Nat} {e : TypeId} {size : Nat} {a : Option Addr} {n c : Nat} {xs : List Value} (h : w.ownsRow base e size (.slice a n c) n xs) : CellsIn w a xs := by
  intro h0
  have hl := h.1
  have hn : 0 < n := by
    rcases Nat.eq_zero_or_pos n with rfl | hn
    · simp at hl; rw [hl] at h0; simp at h0
    · exact hn
  obtain ⟨a', c', hv, _, _, hf⟩ := own_form' h
  obtain ⟨g, rfl, _, hg, hc⟩ := hf hn
  injection hv with h1
  subst h1
  refine ⟨g, 0, rfl, hg, fun i u hu => ?_⟩
  have hi := (List.getElem?_eq_some_iff.1 hu).1
  rw [Nat.zero_add, hc i (by omega), hu]

theorem CellsIn.take {w : World} {A : Option Addr} {cs : List Value} (h : CellsIn w A cs) (m : Nat) : CellsIn w A (cs.take m) := fun h0 => by
  rw [List.length_take] at h0
  obtain ⟨b, off, rfl, h1, h2⟩ := h (by omega)
  exact ⟨b, off, rfl, h1, fun i u hu => h2 i u (by rw [List.getElem?_take] at hu; split at hu; exact hu; cases hu)⟩

/-- Where 'xs[m:]' begins. -/
def cutA (A : Option Addr) (c m k : Nat) : Option Addr := if c = m then A else A.map (·.add (m * k))

theorem CellsIn.drop {w : World} {A : Option Addr} {cs : List Value} (h : CellsIn w A cs) (c m k : Nat) (hc : cs.length ≤ c * k) : CellsIn w (cutA A c m k) (cs.drop (m * k)) := fun h0 => by
  rw [List.length_drop] at h0
  obtain ⟨b, off, rfl, h1, h2⟩ := h (by omega)
  have hne : c ≠ m := by rintro rfl; omega
  have : (⟨b, off, none⟩ : Addr).add (m * k) = ⟨b, off + m * k, none⟩ := by unfold Addr.add; split <;> simp_all
  refine ⟨b, off + m * k, by simp [cutA, hne, this], h1, fun i u hu => ?_⟩
  rw [List.getElem?_drop] at hu
  have := h2 _ _ hu
  rwa [← Nat.add_assoc] at this

/-! Lists of cells, k an element. -/
theorem flat_len {α β : Type} {f : α → List β} {k : Nat} (hk : ∀ x, (f x).length = k) : ∀ l : List α, (l.flatMap f).length = l.length * k
  | [] => by simp
  | x :: l => by rw [List.flatMap_cons, List.length_append, hk, flat_len hk l, List.length_cons, Nat.succ_mul, Nat.add_comm]
theorem flat_get {α β : Type} {f : α → List β} {k : Nat} (hk : ∀ x, (f x).length = k) : ∀ (l : List α) (j i : Nat), i < k → (l.flatMap f)[j * k + i]? = (l[j]?).bind fun x => (f x)[i]?
  | [], j, i, _ => by simp
  | x :: l, 0, i, hi => by rw [List.flatMap_cons, Nat.zero_mul, Nat.zero_add, List.getElem?_append_left (by rw [hk]; exact hi)]; rfl
  | x :: l, j + 1, i, hi => by
    rw [List.flatMap_cons, List.getElem?_append_right (by rw [hk, Nat.succ_mul]; omega), hk, show (j + 1) * k + i - k = j * k + i by rw [Nat.succ_mul]; omega, flat_get hk l j i hi]
    rfl
theorem flat_take {α β : Type} {f : α → List β} {k : Nat} (hk : ∀ x, (f x).length = k) : ∀ (l : List α) (m : Nat), (l.flatMap f).take (m * k) = (l.take m).flatMap f
  | [], m => by simp
  | x :: l, 0 => by simp
  | x :: l, m + 1 => by
    rw [List.flatMap_cons, List.take_succ_cons, List.flatMap_cons, List.take_append, hk, List.take_of_length_le (by rw [hk, Nat.succ_mul]; omega), show (m + 1) * k - k = m * k by rw [Nat.succ_mul]; omega, flat_take hk l m]
theorem flat_drop {α β : Type} {f : α → List β} {k : Nat} (hk : ∀ x, (f x).length = k) : ∀ (l : List α) (m : Nat), (l.flatMap f).drop (m * k) = (l.drop m).flatMap f
  | [], m => by simp
  | x :: l, 0 => by simp
  | x :: l, m + 1 => by
    rw [List.flatMap_cons, List.drop_succ_cons, List.drop_append, hk, List.drop_of_length_le (by rw [hk, Nat.succ_mul]; omega), show (m + 1) * k - k = m * k by rw [Nat.succ_mul]; omega, flat_drop hk l m]
    rfl

section
variable {P : Program}
/-- 'xs[:m]'. -/
theorem run_cut_low (t e : TypeId) (ht : P.underlying t = some (.slice e)) (k : Nat) (hk : ∀ w, (sizeOf e).run P w = .ok k w) (A : Option Addr) (n c m : Nat) (hm : m ≤ c) (W : World) :
    (Instr.slice t (.slice A n c) none (some (.int .i64 (m : Int))) none).run P W = .ok (.slice A m c) W := by
  have hel : P.elem t = e := by simp [Program.elem, ht]
  have hu : P.underlying t = some (.slice (P.elem t)) := by rw [hel]; exact ht
  rw [run_slice_h W t A n c hu .i64 (m : Int) (Int.natCast_nonneg _) (by omega), hel, hk]
  cases A <;> simp [sliced, Result.andThen, Addr.add]
/-- 'xs[m:]'. -/
theorem run_cut_high (t e : TypeId) (ht : P.underlying t = some (.slice e)) (k : Nat) (hk : ∀ w, (sizeOf e).run P w = .ok k w) (A : Option Addr) (n c m : Nat) (hm : m ≤ n) (W : World) :
    (Instr.slice t (.slice A n c) (some (.int .i64 (m : Int))) none none).run P W = .ok (.slice (cutA A c m k) (n - m) (c - m)) W := by
  have hel : P.elem t = e := by simp [Program.elem, ht]
  have hu : P.underlying t = some (.slice (P.elem t)) := by rw [hel]; exact ht
  rw [run_slice_l W t A n c hu .i64 (m : Int) (Int.natCast_nonneg _) (by omega), hel, hk]
  simp [sliced, Result.andThen, cutA]

/-- append from whatever source. -/
theorem wp_app (w : World) {o : Oper} {a : Act} {K : Act → World → Prop} {Q : Exit → Act → World → Prop} (s x : Operand) (t : TypeId)
    (ho : o.op = .call { callee := .builtin .append, args := #[s, x], argTypes := #[t, t] })
    (base : Nat) (e : TypeId) (z : Value) (size bytes : Nat) (ht : P.underlying t = some (.slice e)) (hinfo : (P.info? e).map (fun i => (i.zero, i.size, i.bytes)) = some (some z, size, bytes))
    (hzs : z.cells.size = size) (hsz : 0 < size)
    (v : Value) (n : Nat) (xs : List Value) (hs : a.eval s = v) (hown : w.ownsRow base e size v n xs)
    (A : Option Addr) (m c : Nat) (news : List Value) (hx : a.eval x = .slice A m c) (hA : A = none → m = 0 ∧ c = 0) (hl : news.length = m * size) (hnews : CellsIn w A news) (h1 : ∀ u ∈ news, u.oneCell' = true)
    (h63 : n + m ≤ maxLen) (hbytes : (n + m) * bytes ≤ 140737488355328) (hbase : base ≤ w.heap.size)
    (h : ∀ v' w', w'.ownsRow base e size v' (n + m) (xs ++ news) → w.grownBy w' v.ownBlock → K (a.put o.dst v') w') : o.wp P a w K Q := by
  obtain ⟨i0, hi, hz0, hz1, hz2⟩ := info_parts hinfo
  cases A with
  | some ad => exact wp_append_own w s x t ho base e i0 z size bytes ht hi hz0 hz1 hz2 hzs hsz v n xs hs hown ad m c news hx hl (hnews.add ad rfl) h1 h63 hbytes hbase (fun v' w' h2 h3 _ => h v' w' h2 h3)
  | none =>
    obtain ⟨rfl, rfl⟩ := hA rfl
    obtain rfl : news = [] := List.eq_nil_of_length_eq_zero (by simpa using hl)
    have hrun := run_append_owned_none (P := P) (w := w) base t o.type e i0 size ht hi v n xs hown
    unfold Oper.wp
    simp [execOp, ho, resolve, invoke, builtin, hs, hx, hrun, Result.andThen]
    exact h v w (by simpa using hown) ⟨rfl, rfl, rfl, Nat.le_refl _, fun _ _ _ => rfl⟩
theorem wpList_app (w : World) {ops : Array Oper} {rest : List Oper} {o : Oper} {a : Act} {Q : Exit → Act → World → Prop} (hgd : o.guard = none) (s x : Operand) (t : TypeId)
    (ho : o.op = .call { callee := .builtin .append, args := #[s, x], argTypes := #[t, t] })
    (base : Nat) (e : TypeId) (z : Value) (size bytes : Nat) (ht : P.underlying t = some (.slice e)) (hinfo : (P.info? e).map (fun i => (i.zero, i.size, i.bytes)) = some (some z, size, bytes))
    (hzs : z.cells.size = size) (hsz : 0 < size)
    (v : Value) (n : Nat) (xs : List Value) (hs : a.eval s = v) (hown : w.ownsRow base e size v n xs)
    (A : Option Addr) (m c : Nat) (news : List Value) (hx : a.eval x = .slice A m c) (hA : A = none → m = 0 ∧ c = 0) (hl : news.length = m * size) (hnews : CellsIn w A news) (h1 : ∀ u ∈ news, u.oneCell' = true)
    (h63 : n + m ≤ maxLen) (hbytes : (n + m) * bytes ≤ 140737488355328) (hbase : base ≤ w.heap.size)
    (h : ∀ v' w', w'.ownsRow base e size v' (n + m) (xs ++ news) → w.grownBy w' v.ownBlock → wpList P ops Q rest (a.put o.dst v') w') : wpList P ops Q (o :: rest) a w :=
  wpList_plain hgd fun _ hK => wp_app w s x t ho base e z size bytes ht hinfo hzs hsz v n xs hs hown A m c news hx hA hl hnews h1 h63 hbytes hbase fun v' w' h2 h3 => hK _ _ (h v' w' h2 h3)
theorem step_app (w : World) {ops : Array Oper} {o : Oper} {a : Act} {K : Act → World → Prop} {Q : Exit → Act → World → Prop} {E : Prop} (hgd : o.guard = none) (s x : Operand) (t : TypeId)
    (ho : o.op = .call { callee := .builtin .append, args := #[s, x], argTypes := #[t, t] })
    (base : Nat) (e : TypeId) (z : Value) (size bytes : Nat) (ht : P.underlying t = some (.slice e)) (hinfo : (P.info? e).map (fun i => (i.zero, i.size, i.bytes)) = some (some z, size, bytes))
    (hzs : z.cells.size = size) (hsz : 0 < size)
    (v : Value) (n : Nat) (xs : List Value) (hs : a.eval s = v) (hown : w.ownsRow base e size v n xs)
    (A : Option Addr) (m c : Nat) (news : List Value) (hx : a.eval x = .slice A m c) (hA : A = none → m = 0 ∧ c = 0) (hl : news.length = m * size) (hnews : CellsIn w A news) (h1 : ∀ u ∈ news, u.oneCell' = true)
    (h63 : n + m ≤ maxLen) (hbytes : (n + m) * bytes ≤ 140737488355328) (hbase : base ≤ w.heap.size)
    (h : ∀ v' w', w'.ownsRow base e size v' (n + m) (xs ++ news) → w.grownBy w' v.ownBlock → K (a.put o.dst v') w') :
    if Region.wanted o (yielded ops a.tmps) = true then Oper.wp P o a w K Q else E := by
  rw [if_pos (by simp [Region.wanted, hgd])]
  exact wp_app w s x t ho base e z size bytes ht hinfo hzs hsz v n xs hs hown A m c news hx hA hl hnews h1 h63 hbytes hbase h
end
end Go.Proofs.YthjoohdmckfihaaDoor
