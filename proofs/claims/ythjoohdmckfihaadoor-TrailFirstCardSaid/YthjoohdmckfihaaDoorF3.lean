import Derived.Test.YthjoohdmckfihaaDoorF2
import Derived.Test.YthjoohdmckfihaaDoorG1
import Derived.Test.YthjoohdmckfihaaDoorL7
namespace Go.Proofs.YthjoohdmckfihaaDoor
open Go.RowKit Go.Lib Go.Sort

/-- What the reference's first loop knows, gone down to place k. -/
def FromIs (l : List Hp) (k : Nat) (f : Int) : Prop :=
  (f = -1 ∧ ∀ j, k ≤ j → j < l.length → (l[j]!.kind == 1) = false) ∨ ∃ p : Nat, f = p ∧ k ≤ p ∧ p < l.length ∧ (l[p]!.kind == 1) = true ∧ ∀ j, k ≤ j → j < p → (l[j]!.kind == 1) = false

theorem FromIs.none {l : List Hp} {f : Int} (h : FromIs l 0 f) (hn : l.find? (fun h => h.kind == 1) = none) : f = -1 := by
  rcases h with ⟨h, _⟩ | ⟨p, _, _, hp, h1, _⟩
  · exact h
  · have := List.find?_eq_none.1 hn l[p] (List.getElem_mem hp)
    rw [getElem!_pos l p hp] at h1
    rw [h1] at this
    exact absurd rfl this
theorem FromIs.some {l : List Hp} {f : Int} {x : Hp} (h : FromIs l 0 f) (hs : l.find? (fun h => h.kind == 1) = some x) : ∃ p : Nat, f = p ∧ p < l.length ∧ l[p]! = x := by
  obtain ⟨q, hq, _, hx, h1, h2⟩ := idx_some (p := fun h => h.kind == 1) hs
  rcases h with ⟨_, hno⟩ | ⟨p, hf, _, hp, hp1, hp2⟩
  · have := hno q (Nat.zero_le _) hq
    rw [h1] at this; cases this
  · have : p = q := by
      rcases Nat.lt_trichotomy p q with h | h | h
      · have := h2 p h; rw [hp1] at this; cases this
      · exact h
      · have := hp2 q (Nat.zero_le _) h; rw [h1] at this; cases this
    subst this
    exact ⟨p, hf, hp, hx⟩



set_option maxRecDepth 100000 in
theorem rspread_none {w : World} {v : Value} {l : List Hp} (h : HopsIn w v l) (hl : l.length ≤ 100) (hn : l.find? (fun h => h.kind == 1) = none) :
    Calls Tryd.prog 13 #[v] w fun e w' => e = .returned (.slice none 0 0) ∧ Below w.heap.size w w' := by
  obtain ⟨a, c, rfl, h⟩ := h
  have HH := Lib.hid h
  have HN := Lib.hid hn
  clear h hn
  go_enter Tryd.func13, Tryd.ntmps13
  go_wp2
  go_loop [4, 5] (fun f i => ∃ (k : Nat) (x : Int), k ≤ l.length ∧ f = .int .i64 x ∧ i = .int .i64 ((k : Int) - 1) ∧ Hid (FromIs l k x))
    (fun _ i => (intOf i + 1).toNat)
  case atStart => exact ⟨l.length, -1, Nat.le_refl _, rfl, rfl, .inl ⟨rfl, fun j h1 h2 => absurd h1 (by omega)⟩⟩
  case round =>
    obtain ⟨k, x, hk, rfl, rfl, hf⟩ := hrel
    by_cases hlt : 0 < k
    · obtain ⟨b, off, rfl, hb, l20, _, _, _, _, _⟩ := hopCellsAny (Below.refl w.heap.size w) HH.out (k - 1) (by omega)
      have hi1 : (0 : Int) ≤ (k : Int) - 1 := by omega
      have hi2 : (k : Int) - 1 < (l.length : Int) := by omega
      have hi3 : ((k : Int) - 1).toNat = k - 1 := by omega
      have hi4 : ((k - 1 : Nat) : Int) = (k : Int) - 1 := by omega
      have hyes : (l[k - 1]!.kind == 1) = true → FromIs l (k - 1) ((k : Int) - 1) := fun t1 => .inr ⟨k - 1, by omega, Nat.le_refl _, by omega, t1, fun j h1 h2 => absurd h1 (by omega)⟩
      have hno : (l[k - 1]!.kind == 1) = false → FromIs l (k - 1) x := fun t1 => by
        rcases hf.out with ⟨h1, h2⟩ | ⟨p, h1, h2, h3, h4, h5⟩
        · refine .inl ⟨h1, fun j h3 h4 => ?_⟩
          by_cases e : j = k - 1
          · subst e; exact t1
          · exact h2 j (by omega) h4
        · refine .inr ⟨p, h1, by omega, h3, h4, fun j h6 h7 => ?_⟩
          by_cases e : j = k - 1
          · subst e; exact t1
          · exact h5 j (by omega) h7
      have HY := Lib.hid hyes
      have HO := Lib.hid hno
      have HI4 := Lib.hid hi4
      clear hyes hno hi4
      generalize l[k - 1]! = y at *
      cases t1 : (y.kind == 1) with
      | true =>
        go_wp2
        go_round
        case rel => exact ⟨k - 1, (k : Int) - 1, by omega, rfl, by rw [HI4.out], HY.out t1⟩
        case measure => simp [intOf]; omega
      | false =>
        go_wp2
        go_round
        case rel => exact ⟨k - 1, x, by omega, rfl, by rw [HI4.out], HO.out t1⟩
        case measure => simp [intOf]; omega
    · obtain rfl : k = 0 := by omega
      obtain rfl := hf.out.none HN.out
      go_wp2
      refine wp_loop_rounds 1 ?_
      rw [rounds_succ]
      go_wp2
      all_goals
        go_ret
        exact ⟨rfl, Below.refl _ _⟩

theorem refOf_take (l0 : Hp) (l : List Hp) (k : Nat) (hk : k < l.length) : refOf l0 (l.take (k + 1)) = refStep l0 (refOf l0 (l.take k)) l[k]! := by
  unfold refOf
  rw [List.take_succ_eq_append_getElem hk, List.foldl_append, List.foldl_cons, List.foldl_nil, getElem!_pos l k hk]
theorem insR_len (out : List (Int × Int)) (r a : Int) : (insR out r a).length ≤ out.length + 1 := by
  unfold insR; split
  · omega
  · simp only [List.length_append, List.length_take, List.length_drop, List.length_cons, List.length_nil]; have := at_le out r; omega
theorem refStep_len (l0 x : Hp) (out : List (Int × Int)) : (refStep l0 out x).length ≤ out.length + 1 := by
  unfold refStep; split
  · omega
  · exact insR_len _ _ _
theorem at_lt {R : List (Int × Int)} {r : Int} {m : Nat} (h : m < atR R r) : m < R.length ∧ R[m]!.1 < r := by
  have h1 := at_le R r
  have hm : m < R.length := by omega
  refine ⟨hm, ?_⟩
  have := take_at R r R[m] (by rw [List.mem_take_iff_getElem]; exact ⟨m, by omega, rfl⟩)
  rw [getElem!_pos R m hm]; exact this
theorem at_stop {r : Int} : ∀ {R : List (Int × Int)}, (h : atR R r < R.length) → r ≤ R[atR R r]!.1
  | [], h => absurd h (Nat.not_lt_zero _)
  | x :: R, h => by
    by_cases hx : x.1 < r
    · have e : atR (x :: R) r = atR R r + 1 := by unfold atR; rw [List.takeWhile_cons_of_pos (by simpa using hx)]; rfl
      rw [e] at h ⊢
      have h' : atR R r < R.length := by simpa using h
      have := at_stop h'
      rw [getElem!_pos R _ h'] at this
      rw [getElem!_pos (x :: R) _ h]
      exact this
    · have e : atR (x :: R) r = 0 := by unfold atR; rw [List.takeWhile_cons_of_neg (by simpa using hx)]; rfl
      rw [e]
      show r ≤ x.1
      omega
theorem encR_len (p : Int × Int) : (encR p).length = 2 := rfl
theorem encR_one (l : List (Int × Int)) : ∀ u ∈ l.flatMap encR, u.oneCell' = true := by
  intro u hu
  obtain ⟨p, _, hp⟩ := List.mem_flatMap.1 hu
  simp [encR] at hp
  rcases hp with rfl | rfl <;> rfl

/-- The cells of an owned list of reaches. -/
theorem reach_at {w wr : World} {B : Nat} {a : Option Addr} {c : Nat} {R : List (Int × Int)} (h : w.ownsRow B 37 2 (.slice a R.length c) R.length (R.flatMap encR)) (hb : Below w.heap.size w wr) (m : Nat) (hm : m < R.length) :
    ∃ g, a = some ⟨g, 0, none⟩ ∧ g < w.heap.size ∧ wr.cell? ⟨g, m * 2, none⟩ = some (.int .i64 R[m]!.1) ∧ wr.cell? ⟨g, m * 2 + 1, none⟩ = some (.int .i64 R[m]!.2) := by
  obtain ⟨a', c', hv, _, _, hf⟩ := own_form' h
  injection hv with h1
  subst h1
  obtain ⟨g, rfl, _, hg, hc⟩ := hf (by omega)
  refine ⟨g, rfl, hg, ?_, ?_⟩
  · rw [hb.cell (p := ⟨g, m * 2, none⟩) hg, hc _ (by omega)]
    have := flat_get encR_len R m 0 (by omega)
    rw [Nat.add_zero] at this
    rw [this, List.getElem?_eq_getElem hm, getElem!_pos R m hm]; rfl
  · rw [hb.cell (p := ⟨g, m * 2 + 1, none⟩) hg, hc _ (by omega)]
    rw [flat_get encR_len R m 1 (by omega), List.getElem?_eq_getElem hm, getElem!_pos R m hm]; rfl

/-- What a region keeps: nothing that lay at its head has turned, and three cells. -/
theorem keepG {w0 W w' : World} {row : Option Nat} {p1 p2 p3 : Addr} {v1 v2 v3 : Value} (hg : W.grownBy w' row) (hr : ∀ k, row = some k → w0.heap.size ≤ k)
    (h : Below w0.heap.size w0 W ∧ W.cell? p1 = some v1 ∧ W.cell? p2 = some v2 ∧ W.cell? p3 = some v3) (h1 : p1.block < w0.heap.size) (h2 : p2.block < w0.heap.size) (h3 : p3.block < w0.heap.size) :
    Below w0.heap.size w0 w' ∧ w'.cell? p1 = some v1 ∧ w'.cell? p2 = some v2 ∧ w'.cell? p3 = some v3 := by
  have hb := h.1.grown hg h.1.size hr
  refine ⟨hb, ?_, ?_, ?_⟩
  · rw [hb.cell h1, ← h.1.cell h1]; exact h.2.1
  · rw [hb.cell h2, ← h.1.cell h2]; exact h.2.2.1
  · rw [hb.cell h3, ← h.1.cell h3]; exact h.2.2.2
theorem keepA {w0 W : World} {o : Obj} {p1 p2 p3 : Addr} {v1 v2 v3 : Value}
    (h : Below w0.heap.size w0 W ∧ W.cell? p1 = some v1 ∧ W.cell? p2 = some v2 ∧ W.cell? p3 = some v3) (h1 : p1.block < w0.heap.size) (h2 : p2.block < w0.heap.size) (h3 : p3.block < w0.heap.size) :
    Below w0.heap.size w0 (W.alloc o) ∧ (W.alloc o).cell? p1 = some v1 ∧ (W.alloc o).cell? p2 = some v2 ∧ (W.alloc o).cell? p3 = some v3 :=
  keepG (World.grownBy_alloc W o none) (fun k hk => by cases hk) h h1 h2 h3

/-- The row of one reach, just built. -/
theorem row_alloc (W : World) (cs : Array Value) (t : TypeId) : CellsIn (W.alloc (.cells cs t)) (some ⟨W.heap.size, 0, none⟩) cs.toList := fun _ =>
  ⟨W.heap.size, 0, rfl, by simp, fun i u hu => by
    rw [Nat.zero_add]
    exact (World.cell?_alloc_new (w := W) cs t i).trans (by rw [← Array.getElem?_toList]; exact hu)⟩
theorem box_facts (W : World) (cs : Array Value) (t : TypeId) (n : Nat) : Below W.heap.size W ((W.alloc (.cells cs t)).drewN n) ∧ ((W.alloc (.cells cs t)).drewN n).heap.size = W.heap.size + 1 ∧
    (∀ i u, cs[i]? = some u → ((W.alloc (.cells cs t)).drewN n).cell? ⟨W.heap.size, i, none⟩ = some u) :=
  ⟨pw_below_drewN ((Below.refl _ _).alloc (Nat.le_refl _) _) _, by show (W.alloc _).heap.size = _; simp, fun i u hu => (World.cell?_alloc_new (w := W) cs t i).trans hu⟩
theorem row_grown {W w1 : World} {g : Nat} {row : Option Nat} (cs : Array Value) {t : TypeId} (hg : (W.alloc (.cells cs t)).drew.grownBy w1 row) (hr : row = none) (he : g = W.heap.size) : CellsIn w1 (some ⟨g, 0, none⟩) cs.toList := by
  subst hr he
  exact (row_alloc W cs t).below ((Below.refl (W.alloc (.cells cs t)).heap.size (W.alloc (.cells cs t))).drew.grown hg (Nat.le_refl _) (fun k hk => by cases hk))
theorem s_below {w0 W : World} {X : Prop} (h : Below w0.heap.size w0 W ∧ X) : Below w0.heap.size w0 W := h.1
theorem own_low {w : World} {base base' : Nat} {e : TypeId} {size : Nat} {v : Value} {n : Nat} {xs : List Value} (h : w.ownsRow base e size v n xs) (hb : base' ≤ base) : w.ownsRow base' e size v n xs :=
  ⟨h.1, h.2.imp id fun ⟨g, cap, cur, h1, h2, h3⟩ => ⟨g, cap, cur, h1, Nat.le_trans hb h2, h3⟩⟩
theorem s_size {w0 W : World} {X : Prop} (h : Below w0.heap.size w0 W ∧ X) : w0.heap.size ≤ W.heap.size := h.1.size
theorem s_src {w0 W : World} {X : Prop} {A : Option Addr} {cs : List Value} (hc : CellsIn w0 A cs) (h : Below w0.heap.size w0 W ∧ X) : CellsIn W A cs := hc.below h.1



set_option maxRecDepth 100000 in
set_option maxHeartbeats 4000000 in
theorem rspread_some {w : World} {v : Value} {l : List Hp} (h : HopsIn w v l) (hl : l.length ≤ 100) (hok : ∀ j, j < l.length → l[j]!.Ok) {l0 : Hp} (hn : l.find? (fun h => h.kind == 1) = some l0) :
    Calls Tryd.prog 13 #[v] w fun e w' => ∃ u, e = .returned u ∧ w'.ownsRow w.heap.size 37 2 u (refOf l0 l).length ((refOf l0 l).flatMap encR) ∧ Below w.heap.size w w' := by
  obtain ⟨a, c, rfl, h⟩ := h
  have HH := Lib.hid h
  have HN := Lib.hid hn
  have HK := Lib.hid hok
  clear h hn hok
  go_enter Tryd.func13, Tryd.ntmps13
  go_wp2
  go_loop [4, 5] (fun f i => ∃ (k : Nat) (x : Int), k ≤ l.length ∧ f = .int .i64 x ∧ i = .int .i64 ((k : Int) - 1) ∧ Hid (FromIs l k x))
    (fun _ i => (intOf i + 1).toNat)
  case atStart => exact ⟨l.length, -1, Nat.le_refl _, rfl, rfl, .inl ⟨rfl, fun j h1 h2 => absurd h1 (by omega)⟩⟩
  case round =>
    obtain ⟨k, x, hk, rfl, rfl, hf⟩ := hrel
    by_cases hlt : 0 < k
    · obtain ⟨b, off, rfl, hb, l20, _, _, _, _, _⟩ := hopCellsAny (Below.refl w.heap.size w) HH.out (k - 1) (by omega)
      have hi1 : (0 : Int) ≤ (k : Int) - 1 := by omega
      have hi2 : (k : Int) - 1 < (l.length : Int) := by omega
      have hi3 : ((k : Int) - 1).toNat = k - 1 := by omega
      have hi4 : ((k - 1 : Nat) : Int) = (k : Int) - 1 := by omega
      have hyes : (l[k - 1]!.kind == 1) = true → FromIs l (k - 1) ((k : Int) - 1) := fun t1 => .inr ⟨k - 1, by omega, Nat.le_refl _, by omega, t1, fun j h1 h2 => absurd h1 (by omega)⟩
      have hno : (l[k - 1]!.kind == 1) = false → FromIs l (k - 1) x := fun t1 => by
        rcases hf.out with ⟨h1, h2⟩ | ⟨p, h1, h2, h3, h4, h5⟩
        · refine .inl ⟨h1, fun j h3 h4 => ?_⟩
          by_cases e : j = k - 1
          · subst e; exact t1
          · exact h2 j (by omega) h4
        · refine .inr ⟨p, h1, by omega, h3, h4, fun j h6 h7 => ?_⟩
          by_cases e : j = k - 1
          · subst e; exact t1
          · exact h5 j (by omega) h7
      have HY := Lib.hid hyes
      have HO := Lib.hid hno
      have HI4 := Lib.hid hi4
      clear hyes hno hi4
      generalize l[k - 1]! = y at *
      cases t1 : (y.kind == 1) with
      | true =>
        go_wp2
        go_round
        case rel => exact ⟨k - 1, (k : Int) - 1, by omega, rfl, by rw [HI4.out], HY.out t1⟩
        case measure => simp [intOf]; omega
      | false =>
        go_wp2
        go_round
        case rel => exact ⟨k - 1, x, by omega, rfl, by rw [HI4.out], HO.out t1⟩
        case measure => simp [intOf]; omega
    · obtain rfl : k = 0 := by omega
      obtain ⟨p, rfl, hp, rfl⟩ := hf.out.some HN.out
      clear hf
      have hp0 : (0 : Int) ≤ (p : Int) := by omega
      have hp1 : (p : Int) < (l.length : Int) := by omega
      go_wp2
      go_loopw [3, 6] (fun o i wr => ∃ k : Nat, k ≤ l.length ∧ i = .int .i64 k ∧ wr.ownsRow w.heap.size 37 2 o (refOf l[p]! (l.take k)).length ((refOf l[p]! (l.take k)).flatMap encR) ∧ Hid ((refOf l[p]! (l.take k)).length ≤ k) ∧ Below w.heap.size w wr)
        (fun _ i _ => l.length - (intOf i).toNat)
      case atStart => exact ⟨0, Nat.zero_le _, rfl, World.ownsRow_nil _ _ _ _, Nat.le_refl _, Below.refl _ _⟩
      case round =>
        obtain ⟨k, hk, rfl, ho, hlen, hq⟩ := hrel
        have hq1 := hq.size
        obtain ⟨ao, co, rfl, hco, hao, hrest⟩ := own_form' ho
        clear hrest
        by_cases hlt : k < l.length
        · obtain ⟨b, off, rfl, hb, l20, l21, l22, l23, l24, l25⟩ := hopCellsAny hq HH.out k hlt
          obtain ⟨b', off', he, _, m20, m21, m22, _, _, _⟩ := hopCellsAny hq HH.out p hp
          obtain ⟨rfl, rfl⟩ : b = b' ∧ off = off' := by injection he with he; injection he with h1 h2; exact ⟨h1, h2⟩
          clear he m20
          have hne : b ≠ wr.heap.size := by omega
          have hox := HK.out k hlt
          have hoy := HK.out p hp
          have hR := refOf_take l[p]! l k hlt
          generalize l[k]! = x at l20 l21 l22 l23 l24 l25 hox hR
          generalize hY : l[p]! = y at m21 m22 hoy hR ho hlen hco
          have HYY := Lib.hid hY
          generalize hRR : refOf y (l.take k) = R at ho hlen hR hco
          clear hY hRR
          obtain ⟨_, hxa, hxr, _, _, _⟩ := hox
          obtain ⟨_, hya, hyr, _, _, _⟩ := hoy
          have HR := Lib.hid hR
          clear hR
          have hra : ∀ o, (wr.alloc o).cell? ⟨b, off + p * 6 + 2, none⟩ = some (.int .i64 y.region) := fun o => Lib.cell?_alloc_some _ m22
          have HW := Lib.hid (IntWalk.i64_in (x.act - y.act) (by omega))
          cases t1 : (x.kind == 2) with
          | false =>
            have t1' : (x.kind != 2) = true := by simp [bne, t1]
            go_wp2
            go_quiet (fail)
            go_wp2
            go_roundw
            case rel =>
              have hs : refOf y (l.take (k + 1)) = R := by rw [HR.out]; unfold refStep; rw [if_pos (.inl (by simpa using t1))]
              exact ⟨k + 1, by omega, by go_num, by rw [hs]; exact ho.alloc _, by rw [hs]; exact Nat.le_succ_of_le hlen.out, pw_below_drewN (hq.alloc hq1 _) _⟩
            case measure => simp [intOf]; omega
          | true =>
            have t1' : (x.kind != 2) = false := by simp [bne, t1]
            cases t2 : (x.region == y.region) with
            | true =>
              go_wp2
              go_quiet (fail)
              go_wp2
              go_roundw
              case rel =>
                have hs : refOf y (l.take (k + 1)) = R := by rw [HR.out]; unfold refStep; rw [if_pos (.inr (by simpa using t2))]
                exact ⟨k + 1, by omega, by go_num, by rw [hs]; exact ho.alloc _, by rw [hs]; exact Nat.le_succ_of_le hlen.out, pw_below_drewN (hq.alloc hq1 _) _⟩
              case measure => simp [intOf]; omega
            | false =>
              go_wp2
              go_quiet (fail)
              go_wp2
              obtain ⟨wo, hwo⟩ : ∃ wo : World, wo = wr := ⟨_, rfl⟩
              subst hwo
              obtain ⟨hob, hbz, hbx⟩ := box_facts wo #[.int .i64 x.kind, .int .i64 x.act, .int .i64 x.region, .int .i64 x.src, .int .i64 x.code, .string x.device] 31 nq
              have ho2 : ((wo.alloc ((.cells #[.int .i64 x.kind, .int .i64 x.act, .int .i64 x.region, .int .i64 x.src, .int .i64 x.code, .string x.device] 31))).drewN nq).ownsRow w.heap.size 37 2 (.slice ao R.length co) R.length (R.flatMap encR) := ho.alloc _
              have hx1 := hbx 1 (.int .i64 x.act) rfl
              have hx2 := hbx 2 (.int .i64 x.region) rfl
              have hx3 := (hob.cell (p := ⟨b, off + p * 6 + 1, none⟩) (Nat.lt_of_lt_of_le hb hq1)).trans m21
              clear hbx
              generalize ((wo.alloc ((.cells #[.int .i64 x.kind, .int .i64 x.act, .int .i64 x.region, .int .i64 x.src, .int .i64 x.code, .string x.device] 31))).drewN nq) = wb at hob ho2 hbz hx1 hx2 hx3 ⊢
              clear l20 l21 l22 l23 l24 l25 m21 m22 hra ho
              have hRl : R.length ≤ 100 := Nat.le_trans hlen.out (by omega)
              go_loopw [8] (fun at' wr => ∃ m : Nat, at' = .int .i64 m ∧ m ≤ atR R x.region ∧ Below wb.heap.size wb wr)
                (fun at' _ => R.length - (intOf at').toNat)
              case atStart => exact ⟨0, rfl, Nat.zero_le _, Below.refl _ _⟩
              case round =>
                obtain ⟨m, rfl, hm, hmw⟩ := hrel
                have hms := hmw.size
                have hml := at_le R x.region
                have fx2 : wr.cell? ⟨wo.heap.size, 2, none⟩ = some (.int .i64 x.region) := (hmw.cell (p := ⟨wo.heap.size, 2, none⟩) (by show wo.heap.size < _; omega)).trans hx2
                by_cases hlt : m < atR R x.region
                · obtain ⟨hmR, hrr⟩ := at_lt hlt
                  obtain ⟨g, rfl, hg, c0, c1⟩ := reach_at ho2 hmw m hmR
                  have hm0 : (0 : Int) ≤ (m : Int) := by omega
                  have hm1 : (m : Int) < (R.length : Int) := by omega
                  generalize R[m]!.1 = z at c0 hrr
                  generalize R[m]!.2 = z2 at c1
                  go_wp2
                  go_quiet (fail)
                  go_wp2
                  go_roundw
                  case rel => exact ⟨m + 1, by go_num, hlt, pw_below_drewN hmw _⟩
                  case measure => simp [intOf]; omega
                · obtain rfl : m = atR R x.region := by omega
                  clear hlt hm
                  have hdone := fun (h : (R[atR R x.region]?).map Prod.fst = some x.region) => (HR.out.trans (by unfold refStep; rw [if_neg (by simp only [not_or]; exact ⟨by simpa using t1, by simpa using t2⟩)]; unfold insR; rw [if_pos h]) : refOf y (l.take (k + 1)) = R)
                  have hput := fun (h : ¬ (R[atR R x.region]?).map Prod.fst = some x.region) => (HR.out.trans (by unfold refStep; rw [if_neg (by simp only [not_or]; exact ⟨by simpa using t1, by simpa using t2⟩)]; unfold insR; rw [if_neg h]) : refOf y (l.take (k + 1)) = R.take (atR R x.region) ++ [(x.region, x.act - y.act)] ++ R.drop (atR R x.region))
                  have hst := fun h => at_stop (R := R) (r := x.region) h
                  have HD := Lib.hid hdone
                  have HP := Lib.hid hput
                  have HS := Lib.hid hst
                  clear hdone hput hst
                  generalize atR R x.region = m at *
                  by_cases hmR : m < R.length
                  · obtain ⟨g, rfl, hg, c0, c1⟩ := reach_at ho2 hmw m hmR
                    have hm0 : (0 : Int) ≤ (m : Int) := by omega
                    have hm1 : (m : Int) < (R.length : Int) := by omega
                    have hrr := HS.out hmR
                    have hg1 : (R[m]?).map Prod.fst = some R[m]!.1 := by rw [getElem!_pos R m hmR, List.getElem?_eq_getElem hmR]; rfl
                    have HG := Lib.hid hg1
                    clear hg1
                    generalize R[m]!.1 = z at c0 hrr HG
                    generalize R[m]!.2 = z2 at c1
                    have hrr' : (z < x.region) = False := eq_false (by omega)
                    clear hrr
                    have hme : ((m : Int) == (R.length : Int)) = false := by simp; omega
                    by_cases hreq : z = x.region
                    · have t3 : (z != x.region) = false := by simp [hreq]
                      go_wp2
                      go_quiet (fail)
                      go_wp2
                      go_quiet (fail)
                      go_wp2
                      have hs := HD.out (by rw [HG.out, hreq])
                      refine ⟨⟨k + 1, by omega, by go_num, by rw [hs]; exact own_below ho2 (pw_below_drewN hmw _), by rw [hs]; exact Nat.le_succ_of_le hlen.out, pw_below_drewN ((hq.trans (hob.mono hq1)).trans (hmw.mono (by omega))) _⟩, by simp [intOf]; omega⟩
                    · have t3 : (z != x.region) = true := by simp [hreq]
                      go_wp2
                      go_quiet (fail)
                      go_wp2
                      go_quiet (fail)
                      go_wp2
                      have hs := HP.out (by rw [HG.out]; exact fun h => hreq (Option.some.inj h))
                      rename_i n0
                      have hmq := pw_below_drewN (pw_below_drewN hmw n0) nq
                      have hSR : CellsIn (((wr.drewN n0).drewN nq)) _ (R.flatMap encR) := (cells_of_own ho2).below hmq
                      have fq2 := (hmq.cell (p := ⟨wo.heap.size, 2, none⟩) (by show wo.heap.size < _; omega)).trans hx2
                      have fq1 := (hmq.cell (p := ⟨wo.heap.size, 1, none⟩) (by show wo.heap.size < _; omega)).trans hx1
                      have fq3 := (hmq.cell (p := ⟨b, off + p * 6 + 1, none⟩) (by show b < _; omega)).trans hx3
                      have fl : wo.heap.size < (((wr.drewN n0).drewN nq)).heap.size := by show wo.heap.size < wr.heap.size; omega
                      have fl3 : b < (((wr.drewN n0).drewN nq)).heap.size := by show b < wr.heap.size; omega
                      have hmle : m ≤ R.length := by omega
                      have hmco : m ≤ co := by omega
                      have hSm := hSR.take (m * 2)
                      have hSd := hSR.drop co m 2 (by rw [flat_len encR_len]; omega)
                      rw [flat_take encR_len] at hSm
                      rw [flat_drop encR_len] at hSd
                      clear hSR
                      have hAm : (some ⟨g, 0, none⟩ : Option Addr) = none → m = 0 ∧ co = 0 := fun h => by have := hao h; omega
                      have hAd : cutA (some ⟨g, 0, none⟩ : Option Addr) co m 2 = none → R.length - m = 0 ∧ co - m = 0 := fun h => by
                        unfold cutA at h
                        split at h
                        · have := hao h; omega
                        · have := hao (Option.map_eq_none_iff.1 h); omega
                      have hLm : ((R.take m).flatMap encR).length = m * 2 := by rw [flat_len encR_len, List.length_take, Nat.min_eq_left hmle]
                      have hLd : ((R.drop m).flatMap encR).length = (R.length - m) * 2 := by rw [flat_len encR_len, List.length_drop]
                      have hM1 : 0 + m ≤ maxLen := by show 0 + m ≤ 9223372036854775807; omega
                      have hM2 : (0 + m) * 16 ≤ 140737488355328 := by omega
                      have hM3 : 0 + m + 1 ≤ maxLen := by show 0 + m + 1 ≤ 9223372036854775807; omega
                      have hM4 : (0 + m + 1) * 16 ≤ 140737488355328 := by omega
                      have hM5 : 0 + m + 1 + (R.length - m) ≤ maxLen := by show 0 + m + 1 + (R.length - m) ≤ 9223372036854775807; omega
                      have hM6 : (0 + m + 1 + (R.length - m)) * 16 ≤ 140737488355328 := by omega
                      have hone : ∀ u ∈ ([.int .i64 x.region, .int .i64 (x.act - y.act)] : List Value), u.oneCell' = true := by intro u hu; simp at hu; rcases hu with rfl | rfl <;> rfl
                      have hcl := run_cut_low (P := Tryd.prog) 34 37 Tryd.underlying34 2 Tryd.sizeOf37 (some ⟨g, 0, none⟩ : Option Addr) R.length co m hmco
                      have hch := run_cut_high (P := Tryd.prog) 34 37 Tryd.underlying34 2 Tryd.sizeOf37 (some ⟨g, 0, none⟩ : Option Addr) R.length co m hmle
                      have hww := HW.out
                      have hqq := (hq.trans (hob.mono hq1)).trans (hmq.mono (by omega))
                      generalize ((wr.drewN n0).drewN nq) = wq at *
                      go_region_held3 (fun w' => Below wq.heap.size wq w' ∧ w'.cell? ⟨wo.heap.size, 2, none⟩ = some (.int .i64 x.region) ∧ w'.cell? ⟨wo.heap.size, 1, none⟩ = some (.int .i64 x.act) ∧ w'.cell? ⟨b, off + p * 6 + 1, none⟩ = some (.int .i64 y.act))
                        (first | exact ⟨(Below.refl _ _).drew, fq2, fq1, fq3⟩ | exact keepA (by assumption) fl fl fl3 | exact keepG hg3 (fun k hk => (hv2.lt k hk).1) (by assumption) fl fl fl3 | exact keepG hg2 (fun k hk => (hv1.lt k hk).1) (by assumption) fl fl fl3 | exact keepG hg1 (fun k hk => by cases hk) (by assumption) fl fl fl3)
                        (first
                          | (refine step_app _ (by rfl) (.const (.slice none 0 0)) (.tmp 82) 34 (by rfl) wq.heap.size 37 _ 2 16 Tryd.underlying34 info37 (by rfl) (by decide) _ 0 [] (by rfl) (World.ownsRow_nil _ _ _ _) (some ⟨g, 0, none⟩ : Option Addr) m co ((R.take m).flatMap encR) (by rfl) hAm hLm (s_src hSm (by assumption)) (encR_one _) hM1 hM2 (s_size (by assumption)) ?_; intro v1 w1 hv1 hg1)
                          | (refine step_app _ (by rfl) (.tmp 83) (.tmp 95) 34 (by rfl) wq.heap.size 37 _ 2 16 Tryd.underlying34 info37 (by rfl) (by decide) _ _ _ (by rfl) (by first | exact hv1 | exact hv1.alloc _) _ 1 1 [.int .i64 x.region, .int .i64 (x.act - y.act)] (by rfl) (fun h => by cases h) (by rfl) (by first | exact row_alloc _ #[.int .i64 x.region, .int .i64 (x.act - y.act)] _ | exact row_grown #[.int .i64 x.region, .int .i64 (x.act - y.act)] hg1 rfl rfl) hone hM3 hM4 (s_size (by assumption)) ?_; intro v2 w2 hv2 hg2)
                          | (refine step_app _ (by rfl) (.tmp 96) (.tmp 99) 34 (by rfl) wq.heap.size 37 _ 2 16 Tryd.underlying34 info37 (by rfl) (by decide) _ _ _ (by rfl) hv2 (cutA (some ⟨g, 0, none⟩ : Option Addr) co m 2) (R.length - m) (co - m) ((R.drop m).flatMap encR) (by rfl) hAd hLd (s_src hSd (by assumption)) (encR_one _) hM5 hM6 (s_size (by assumption)) ?_; intro v3 w3 hv3 hg3))
                      all_goals
                        have hb3 : Below wq.heap.size wq w3 := s_below (by assumption)
                        have hs3 := hb3.size
                        go_wp2
                        have hown : w3.ownsRow w.heap.size 37 2 v3 (R.take m ++ [(x.region, x.act - y.act)] ++ R.drop m).length ((R.take m ++ [(x.region, x.act - y.act)] ++ R.drop m).flatMap encR) := by
                          have hl3 : (R.take m ++ [(x.region, x.act - y.act)] ++ R.drop m).length = 0 + m + 1 + (R.length - m) := by
                            simp only [List.length_append, List.length_take, List.length_drop, List.length_cons, List.length_nil]; omega
                          rw [hl3, List.flatMap_append, List.flatMap_append]
                          exact own_low hv3 hqq.size
                        rw [← hs] at hown
                        refine ⟨⟨k + 1, by omega, by go_num, hown, ?_, hqq.trans (hb3.mono hqq.size)⟩, by simp [intOf]; omega⟩
                        show (refOf y (l.take (k + 1))).length ≤ k + 1
                        rw [HR.out]
                        exact Nat.le_trans (refStep_len _ _ _) (Nat.succ_le_succ hlen.out)
                  · have hmge := Lib.hid (show R.length ≤ m by omega)
                    have hmle0 : m ≤ R.length := by omega
                    have hm1 : ((m : Int) < (R.length : Int)) = False := eq_false (by have := hmge.out; omega)
                    have hm2 : ((m : Int) == (R.length : Int)) = true := by have := hmge.out; simp; omega
                    go_wp2
                    go_quiet (fail)
                    go_wp2
                    go_quiet (fail)
                    go_wp2
                    have hs := HP.out (by rw [List.getElem?_eq_none hmge.out]; simp)
                    rename_i n0
                    have hmq := pw_below_drewN (pw_below_drewN hmw n0) nq
                    have hSR : CellsIn (((wr.drewN n0).drewN nq)) _ (R.flatMap encR) := (cells_of_own ho2).below hmq
                    have fq2 := (hmq.cell (p := ⟨wo.heap.size, 2, none⟩) (by show wo.heap.size < _; omega)).trans hx2
                    have fq1 := (hmq.cell (p := ⟨wo.heap.size, 1, none⟩) (by show wo.heap.size < _; omega)).trans hx1
                    have fq3 := (hmq.cell (p := ⟨b, off + p * 6 + 1, none⟩) (by show b < _; omega)).trans hx3
                    have fl : wo.heap.size < (((wr.drewN n0).drewN nq)).heap.size := by show wo.heap.size < wr.heap.size; omega
                    have fl3 : b < (((wr.drewN n0).drewN nq)).heap.size := by show b < wr.heap.size; omega
                    have hmle : m ≤ R.length := by omega
                    have hmco : m ≤ co := by omega
                    have hSm := hSR.take (m * 2)
                    have hSd := hSR.drop co m 2 (by rw [flat_len encR_len]; omega)
                    rw [flat_take encR_len] at hSm
                    rw [flat_drop encR_len] at hSd
                    clear hSR
                    have hAm : ao = none → m = 0 ∧ co = 0 := fun h => by have := hao h; omega
                    have hAd : cutA ao co m 2 = none → R.length - m = 0 ∧ co - m = 0 := fun h => by
                      unfold cutA at h
                      split at h
                      · have := hao h; omega
                      · have := hao (Option.map_eq_none_iff.1 h); omega
                    have hLm : ((R.take m).flatMap encR).length = m * 2 := by rw [flat_len encR_len, List.length_take, Nat.min_eq_left hmle]
                    have hLd : ((R.drop m).flatMap encR).length = (R.length - m) * 2 := by rw [flat_len encR_len, List.length_drop]
                    have hM1 : 0 + m ≤ maxLen := by show 0 + m ≤ 9223372036854775807; omega
                    have hM2 : (0 + m) * 16 ≤ 140737488355328 := by omega
                    have hM3 : 0 + m + 1 ≤ maxLen := by show 0 + m + 1 ≤ 9223372036854775807; omega
                    have hM4 : (0 + m + 1) * 16 ≤ 140737488355328 := by omega
                    have hM5 : 0 + m + 1 + (R.length - m) ≤ maxLen := by show 0 + m + 1 + (R.length - m) ≤ 9223372036854775807; omega
                    have hM6 : (0 + m + 1 + (R.length - m)) * 16 ≤ 140737488355328 := by omega
                    have hone : ∀ u ∈ ([.int .i64 x.region, .int .i64 (x.act - y.act)] : List Value), u.oneCell' = true := by intro u hu; simp at hu; rcases hu with rfl | rfl <;> rfl
                    have hcl := run_cut_low (P := Tryd.prog) 34 37 Tryd.underlying34 2 Tryd.sizeOf37 ao R.length co m hmco
                    have hch := run_cut_high (P := Tryd.prog) 34 37 Tryd.underlying34 2 Tryd.sizeOf37 ao R.length co m hmle
                    have hww := HW.out
                    have hqq := (hq.trans (hob.mono hq1)).trans (hmq.mono (by omega))
                    generalize ((wr.drewN n0).drewN nq) = wq at *
                    go_region_held3 (fun w' => Below wq.heap.size wq w' ∧ w'.cell? ⟨wo.heap.size, 2, none⟩ = some (.int .i64 x.region) ∧ w'.cell? ⟨wo.heap.size, 1, none⟩ = some (.int .i64 x.act) ∧ w'.cell? ⟨b, off + p * 6 + 1, none⟩ = some (.int .i64 y.act))
                      (first | exact ⟨(Below.refl _ _).drew, fq2, fq1, fq3⟩ | exact keepA (by assumption) fl fl fl3 | exact keepG hg3 (fun k hk => (hv2.lt k hk).1) (by assumption) fl fl fl3 | exact keepG hg2 (fun k hk => (hv1.lt k hk).1) (by assumption) fl fl fl3 | exact keepG hg1 (fun k hk => by cases hk) (by assumption) fl fl fl3)
                      (first
                        | (refine step_app _ (by rfl) (.const (.slice none 0 0)) (.tmp 82) 34 (by rfl) wq.heap.size 37 _ 2 16 Tryd.underlying34 info37 (by rfl) (by decide) _ 0 [] (by rfl) (World.ownsRow_nil _ _ _ _) ao m co ((R.take m).flatMap encR) (by rfl) hAm hLm (s_src hSm (by assumption)) (encR_one _) hM1 hM2 (s_size (by assumption)) ?_; intro v1 w1 hv1 hg1)
                        | (refine step_app _ (by rfl) (.tmp 83) (.tmp 95) 34 (by rfl) wq.heap.size 37 _ 2 16 Tryd.underlying34 info37 (by rfl) (by decide) _ _ _ (by rfl) (by first | exact hv1 | exact hv1.alloc _) _ 1 1 [.int .i64 x.region, .int .i64 (x.act - y.act)] (by rfl) (fun h => by cases h) (by rfl) (by first | exact row_alloc _ #[.int .i64 x.region, .int .i64 (x.act - y.act)] _ | exact row_grown #[.int .i64 x.region, .int .i64 (x.act - y.act)] hg1 rfl rfl) hone hM3 hM4 (s_size (by assumption)) ?_; intro v2 w2 hv2 hg2)
                        | (refine step_app _ (by rfl) (.tmp 96) (.tmp 99) 34 (by rfl) wq.heap.size 37 _ 2 16 Tryd.underlying34 info37 (by rfl) (by decide) _ _ _ (by rfl) hv2 (cutA ao co m 2) (R.length - m) (co - m) ((R.drop m).flatMap encR) (by rfl) hAd hLd (s_src hSd (by assumption)) (encR_one _) hM5 hM6 (s_size (by assumption)) ?_; intro v3 w3 hv3 hg3))
                    all_goals
                      have hb3 : Below wq.heap.size wq w3 := s_below (by assumption)
                      have hs3 := hb3.size
                      go_wp2
                      have hown : w3.ownsRow w.heap.size 37 2 v3 (R.take m ++ [(x.region, x.act - y.act)] ++ R.drop m).length ((R.take m ++ [(x.region, x.act - y.act)] ++ R.drop m).flatMap encR) := by
                        have hl3 : (R.take m ++ [(x.region, x.act - y.act)] ++ R.drop m).length = 0 + m + 1 + (R.length - m) := by
                          simp only [List.length_append, List.length_take, List.length_drop, List.length_cons, List.length_nil]; omega
                        rw [hl3, List.flatMap_append, List.flatMap_append]
                        exact own_low hv3 hqq.size
                      rw [← hs] at hown
                      refine ⟨⟨k + 1, by omega, by go_num, hown, ?_, hqq.trans (hb3.mono hqq.size)⟩, by simp [intOf]; omega⟩
                      show (refOf y (l.take (k + 1))).length ≤ k + 1
                      rw [HR.out]
                      exact Nat.le_trans (refStep_len _ _ _) (Nat.succ_le_succ hlen.out)
        · obtain rfl : k = l.length := by omega
          rw [List.take_length] at ho ⊢
          go_wp2
          go_ret
          exact ⟨_, rfl, ho, hq⟩

/-- ref.Spread tells what trail.Spread tells. -/
theorem rspread_any {w : World} {v : Value} {l : List Hp} (h : HopsIn w v l) (hl : l.length ≤ 100) (hok : ∀ j, j < l.length → l[j]!.Ok) :
    Calls Tryd.prog 13 #[v] w fun e w' => ∃ u, e = .returned u ∧ w'.ownsRow w.heap.size 37 2 u (spr l).length ((spr l).flatMap encR) ∧ Below w.heap.size w w' := by
  rw [← refSpr_eq]
  unfold refSpr
  cases hf : l.find? (fun h => h.kind == 1) with
  | none => exact (rspread_none h hl hf).mono fun e w' ⟨h1, h2⟩ => ⟨_, h1, World.ownsRow_nil _ _ _ _, h2⟩
  | some l0 => exact rspread_some h hl hok hf
end Go.Proofs.YthjoohdmckfihaaDoor
