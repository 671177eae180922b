import Derived.Test.YthjoohdmckfihaaDoorA1
import Derived.Test.YthjoohdmckfihaaDoorShelf
import Derived.Maps.OwnOps
import Derived.Maps.OwnSet
import Derived.StillTailTactics
import Derived.Lib.SliceRun
import Derived.WalkSmall
import Derived.Lib.SlKeysI
import Derived.Maps.Range
import Derived.Sort.KeysCollected
import Derived.Shelf.SortM.Plain
import Derived.Shelf.SortM.SortNone
namespace Go.Proofs.YthjoohdmckfihaaDoor
open Go.RowKit Go.Maps Go.Shelf Go.Lib Go.Sort

theorem region_tail {P : Program} {id : Nat} {Q : Exit → Act → World → Prop} {a : Act} {w : World} {l : List Oper} (n : Nat) (hm : P.follows .mixedOrders = true) (hB : Region.lexTailB .any l.toArray n = true)
    (h : wpStill P l.toArray w.drew (fun a' => wpList P l.toArray Q (l.drop n) a' w.drew) (l.take n) a) : (Code.region id l.toArray true).wp P Q a w := wp_region_still_tail n hm hB h

theorem law3 : Keyed Tryd.prog 3 := int_keyed Tryd.underlying3
theorem zero3 (w : World) : (zeroValue 3).run Tryd.prog w = .ok (.int .i64 0) w := by kernel_rfl

/-- Is a hop a new region's? -/
def sprNew (l0 : Hp) (M : List (Int × Int)) (h : Hp) : Bool := h.kind == 2 && (!(M.any (fun p => p.1 == h.region)) && h.region != l0.region)
def sprStep (l0 : Hp) (M : List (Int × Int)) (h : Hp) : List (Int × Int) := if sprNew l0 M h then M ++ [(h.region, h.act - l0.act)] else M
def sprMap (l0 : Hp) (l : List Hp) : List (Int × Int) := l.foldl (sprStep l0) []
def dm (M : List (Int × Int)) : DataW Unit := M.foldl (fun D p => D.put (.int .i64 p.1) (.lit (.int .i64 p.2))) (.map [])

/-- A hop of small numbers. -/
structure Hp.Ok (x : Hp) : Prop where
  kind : -9223372036854775808 ≤ x.kind ∧ x.kind ≤ 9223372036854775807
  act : -1099511627776 ≤ x.act ∧ x.act ≤ 1099511627776
  region : -1099511627776 ≤ x.region ∧ x.region ≤ 1099511627776
  src : -1099511627776 ≤ x.src ∧ x.src ≤ 1099511627776
  code : -1000 ≤ x.code ∧ x.code ≤ 1000
  device : x.device.size ≤ 300

theorem sprMap_take (l0 : Hp) (l : List Hp) (k : Nat) (hk : k < l.length) : sprMap l0 (l.take (k + 1)) = sprStep l0 (sprMap l0 (l.take k)) l[k]! := by
  unfold sprMap
  rw [List.take_succ_eq_append_getElem hk, List.foldl_append, List.foldl_cons, List.foldl_nil, getElem!_pos l k hk]
theorem dm_snoc (M : List (Int × Int)) (x : Int × Int) : dm (M ++ [x]) = (dm M).put (.int .i64 x.1) (.lit (.int .i64 x.2)) := by simp [dm, List.foldl_append]
theorem isMap_fold : ∀ (M : List (Int × Int)) (D : DataW Unit), IsMap D → IsMap (M.foldl (fun D p => D.put (.int .i64 p.1) (.lit (.int .i64 p.2))) D)
  | [], _, h => h
  | _ :: M, _, h => isMap_fold M _ (h.put _ _)
theorem isMap_dm (M : List (Int × Int)) : IsMap (dm M) := isMap_fold M _ ⟨[], rfl⟩
theorem has_put_int {D : DataW Unit} (hD : IsMap D) (a b : Int) (d : DataW Unit) : Maps.has (D.put (.int .i64 a) d) (.int .i64 b) = (a == b || Maps.has D (.int .i64 b)) := by
  by_cases h : a = b
  · subst h; rw [has_put_same hD (by trivial)]; simp
  · rw [has_put_other (by intro h'; cases h'; exact h rfl)]; simp [h]
theorem has_fold_int (r : Int) : ∀ (M : List (Int × Int)) (D : DataW Unit), IsMap D → Maps.has (M.foldl (fun D p => D.put (.int .i64 p.1) (.lit (.int .i64 p.2))) D) (.int .i64 r) = (Maps.has D (.int .i64 r) || M.any (fun p => p.1 == r))
  | [], D, _ => by simp
  | x :: M, D, h => by rw [List.foldl_cons, has_fold_int r M _ (h.put _ _), has_put_int h, List.any_cons, Bool.or_comm (x.1 == r), Bool.or_assoc]
theorem has_dm (M : List (Int × Int)) (r : Int) : Maps.has (dm M) (.int .i64 r) = M.any (fun p => p.1 == r) := by
  unfold dm; rw [has_fold_int r M _ ⟨[], rfl⟩]; rfl
theorem step_old {l0 x : Hp} {M : List (Int × Int)} (h : sprNew l0 M x = false) : sprStep l0 M x = M := by unfold sprStep; rw [h]; rfl
theorem step_new {l0 x : Hp} {M : List (Int × Int)} (h : sprNew l0 M x = true) : sprStep l0 M x = M ++ [(x.region, x.act - l0.act)] := by unfold sprStep; rw [h]; rfl

theorem hopCells {b off : Nat} {l : List Hp} {w wr : World} (hnx : Below w.heap.size w wr) (hb : b < w.heap.size)
    (hc : ∀ j, j < l.length → ∀ i v, (l[j]!.enc)[i]? = some v → w.cell? ⟨b, off + j * 6 + i, none⟩ = some v) (k : Nat) (hk : k < l.length) :
    wr.cell? ⟨b, off + k * 6, none⟩ = some (.int .i64 l[k]!.kind) ∧ wr.cell? ⟨b, off + k * 6 + 1, none⟩ = some (.int .i64 l[k]!.act) ∧ wr.cell? ⟨b, off + k * 6 + 2, none⟩ = some (.int .i64 l[k]!.region) ∧
    wr.cell? ⟨b, off + k * 6 + 3, none⟩ = some (.int .i64 l[k]!.src) ∧ wr.cell? ⟨b, off + k * 6 + 4, none⟩ = some (.int .i64 l[k]!.code) ∧ wr.cell? ⟨b, off + k * 6 + 5, none⟩ = some (.string l[k]!.device) :=
  ⟨(hnx.cell (p := ⟨b, off + k * 6, none⟩) hb).trans (hc k hk 0 _ rfl), (hnx.cell (p := ⟨b, off + k * 6 + 1, none⟩) hb).trans (hc k hk 1 _ rfl), (hnx.cell (p := ⟨b, off + k * 6 + 2, none⟩) hb).trans (hc k hk 2 _ rfl),
   (hnx.cell (p := ⟨b, off + k * 6 + 3, none⟩) hb).trans (hc k hk 3 _ rfl), (hnx.cell (p := ⟨b, off + k * 6 + 4, none⟩) hb).trans (hc k hk 4 _ rfl), (hnx.cell (p := ⟨b, off + k * 6 + 5, none⟩) hb).trans (hc k hk 5 _ rfl)⟩


theorem pw_below_drewN {B : Nat} {w W : World} (h : Below B w W) (n : Nat) : Below B w (W.drewN n) := ⟨h.os, h.tape, h.output, h.size, h.block⟩

/-- The value of a key. -/
def lk (M : List (Int × Int)) (r : Int) : Int := match M.find? (fun p => p.1 == r) with | some p => p.2 | none => 0

theorem atKey_put_int {D : DataW Unit} (hD : IsMap D) (a b : Int) (d z : DataW Unit) : (D.put (.int .i64 a) d).atKey (.int .i64 b) z = if a = b then d else D.atKey (.int .i64 b) z := by
  by_cases h : a = b
  · subst h; rw [atKey_put_same hD (by trivial), if_pos rfl]
  · rw [atKey_put_other (by intro h'; cases h'; exact h rfl), if_neg h]

theorem atKey_fold_far (r : Int) (z : DataW Unit) : ∀ (M : List (Int × Int)) (D : DataW Unit), IsMap D → (∀ p ∈ M, p.1 ≠ r) →
    (M.foldl (fun D p => D.put (.int .i64 p.1) (.lit (.int .i64 p.2))) D).atKey (.int .i64 r) z = D.atKey (.int .i64 r) z
  | [], _, _, _ => rfl
  | x :: M, D, hD, h => by
    rw [List.foldl_cons, atKey_fold_far r z M _ (hD.put _ _) (fun p hp => h p (List.mem_cons_of_mem _ hp)), atKey_put_int hD, if_neg (h x (List.mem_cons_self ..))]

theorem atKey_fold (r : Int) (z : DataW Unit) : ∀ (M : List (Int × Int)) (D : DataW Unit), IsMap D → (M.map Prod.fst).Nodup → r ∈ M.map Prod.fst →
    (M.foldl (fun D p => D.put (.int .i64 p.1) (.lit (.int .i64 p.2))) D).atKey (.int .i64 r) z = .lit (.int .i64 (lk M r))
  | [], _, _, _, h => by simp at h
  | x :: M, D, hD, hn, h => by
    rw [List.map_cons, List.nodup_cons] at hn
    rw [List.foldl_cons]
    by_cases e : x.1 = r
    · rw [atKey_fold_far r z M _ (hD.put _ _) (fun p hp hr => hn.1 (by rw [e, ← hr]; exact List.mem_map_of_mem hp)), atKey_put_int hD, if_pos e]
      simp [lk, e]
    · have hm : r ∈ M.map Prod.fst := by
        rw [List.map_cons, List.mem_cons] at h
        exact h.resolve_left (fun h => e h.symm)
      rw [atKey_fold r z M _ (hD.put _ _) hn.2 hm]
      simp [lk, e]

theorem atKey_dm (M : List (Int × Int)) (r : Int) (z : DataW Unit) (hn : (M.map Prod.fst).Nodup) (h : r ∈ M.map Prod.fst) : (dm M).atKey (.int .i64 r) z = .lit (.int .i64 (lk M r)) :=
  atKey_fold r z M _ ⟨[], rfl⟩ hn h

theorem any_fst (M : List (Int × Int)) (r : Int) : M.any (fun p => p.1 == r) = true ↔ r ∈ M.map Prod.fst := by simp

theorem keys_perm {w : World} {R : Value → Option (DataW Unit × List MemPlace)} {b n : Nat} {M : List (Int × Int)} (hown : w.ownsMap Tryd.prog 3 R b n (dm M)) (hn : (M.map Prod.fst).Nodup) : (M.map Prod.fst).Perm (intKeys (dm M)) := by
  obtain ⟨es, hD, hpw, _⟩ := hown.entries law3
  obtain ⟨es', hD', hko⟩ := hown.keysOf
  obtain rfl : es = es' := by rw [hD] at hD'; simpa using hD'
  have hh := fun r => has_dm M r
  rw [hD] at hh ⊢
  exact perm_intKeys hpw (fun p hp => by obtain ⟨v, hv⟩ := hko p hp; obtain ⟨x, _, hx, _⟩ := Maps.keyOf_i64 Tryd.underlying3 hv; exact ⟨x, hx⟩) hn (fun x => by rw [hh x, any_fst])

/-- The keys of the map of a list are different ones. -/
theorem nodup_step (l0 x : Hp) (M : List (Int × Int)) (h : (M.map Prod.fst).Nodup) : ((sprStep l0 M x).map Prod.fst).Nodup := by
  unfold sprStep
  split
  · next hs =>
    simp only [sprNew, Bool.and_eq_true, Bool.not_eq_true', List.any_eq_false, beq_iff_eq] at hs
    rw [List.map_append, List.nodup_append]
    refine ⟨h, by simp, fun a ha b hb => ?_⟩
    simp only [List.map_cons, List.map_nil, List.mem_singleton] at hb
    subst hb
    obtain ⟨p, hp, rfl⟩ := List.mem_map.1 ha
    exact hs.2.1 p hp
  · exact h
theorem nodup_fold (l0 : Hp) : ∀ (l : List Hp) (M : List (Int × Int)), (M.map Prod.fst).Nodup → ((l.foldl (sprStep l0) M).map Prod.fst).Nodup
  | [], _, h => h
  | x :: l, M, h => nodup_fold l0 l _ (nodup_step l0 x M h)
theorem nodup_spr (l0 : Hp) (l : List Hp) : ((sprMap l0 l).map Prod.fst).Nodup := nodup_fold l0 l [] (by simp)
theorem len_step (l0 x : Hp) (M : List (Int × Int)) : (sprStep l0 M x).length ≤ M.length + 1 := by unfold sprStep; split <;> simp
theorem len_fold (l0 : Hp) : ∀ (l : List Hp) (M : List (Int × Int)), (l.foldl (sprStep l0) M).length ≤ M.length + l.length
  | [], _ => by simp
  | x :: l, M => by have := len_fold l0 l (sprStep l0 M x); have := len_step l0 x M; simp only [List.foldl_cons, List.length_cons]; omega
theorem len_spr (l0 : Hp) (l : List Hp) : (sprMap l0 l).length ≤ l.length := by have := len_fold l0 l []; simpa [sprMap] using this

/-- slices.Sort at whole numbers. -/
theorem sorts3 (m : Nat) : AnyZI.SortsIn Tryd.prog Tryd.sortedI_ren Fence.wide m :=
  ⟨fun blk off cap ss W hH hblk hsz => callsIn_wide.2 (AnyM.slices_Sort_int Tryd.sortI blk off cap ss W hH hblk hsz),
   fun p cap W => callsIn_wide.2 (AnyM.slices_Sort_int_none Tryd.sortI p cap W)⟩

theorem keys_calls (mb : Option Nat) (W : World) : Calls Tryd.prog 25 #[.map mb] W fun e w' => e = .returned (.func (.func 35) #[] #[.pointer (some ⟨W.heap.size, 0, none⟩)]) ∧ w' = W.alloc (.cells #[.map mb] 51) :=
  (callsIn_wide (n := 5)).1 (AnyZI.keys_in Tryd.keysI Fence.wide 5 trivial rfl mb W)

/-- slices.Sorted of maps.Keys of a map that is held in a block. -/
theorem sorted_keys {b nn : Nat} {D0 : DataW Unit} {R : Value → Option (DataW Unit × List MemPlace)} {w : World} (hown : w.ownsMap Tryd.prog 3 R b nn D0) (hmax : Maps.size D0 ≤ maxLen) (hbytes : Maps.size D0 * 8 ≤ 140737488355328) :
    Calls Tryd.prog 24 #[.func (.func 35) #[] #[.pointer (some ⟨w.heap.size, 0, none⟩)]] (w.alloc (.cells #[.map (some b)] 51)) fun e w' => ∃ (v : Value) (ss : List Int), e = .returned v ∧ ss.Perm (intKeys D0) ∧
      w'.ownsRow (w.heap.size + 1) 3 1 v ss.length ((ss.mergeSort (fun x y => decide (x ≤ y))).map encZ) ∧ Below (w.heap.size + 1) (w.alloc (.cells #[.map (some b)] 51)) w' := by
  refine (callsIn_wide (n := 6)).1 ?_
  have hbl := hown.lt
  have hseq : SeqGives Fence.wide 3 Tryd.prog 35 #[.pointer (some ⟨w.heap.size, 0, none⟩)] encZ (fun ss => ss.Perm (intKeys D0)) (Maps.size D0) (w.alloc (.cells #[.map (some b)] 51)) :=
    AnyZI.keys_gives (ρ := Tryd.keysI_ren) { Tryd.keysI with } Fence.wide _ trivial rfl (by omega) w.heap.size b nn D0 _ (by simp) (by simp) (by
      obtain ⟨es, clock, hb, Ft, hs, hD⟩ := hown
      exact ⟨es, clock, (Below.heap_alloc _ _ b hbl).trans hb, Ft, hs, hD⟩)
  have cS := AnyZI.sorted_in Tryd.sortedI Fence.wide 6 trivial trivial trivial trivial rfl (by omega) (sorts3 _) (enters_of Tryd.func34 (by kernel_rfl) rfl) 35 #[.pointer (some ⟨w.heap.size, 0, none⟩)] trivial (enters_of Tryd.func35 (by kernel_rfl) rfl) _ _ hmax hbytes _ hseq
  change CallsIn _ _ Tryd.prog 24 _ _ _ at cS
  refine cS.mono ?_
  rintro e w' ⟨v, ss, h1, h2, h3, _, h5⟩
  have h3' : w'.ownsRow (w.alloc (.cells #[.map (some b)] 51)).heap.size 3 1 v ss.length ((ss.mergeSort (fun x y => decide (x ≤ y))).map encZ) := h3
  exact ⟨v, ss, h1, h2, by simpa using h3', by simpa using h5⟩

/-- What was reached behind the first hop that was published. -/
def sprOf (l0 : Hp) (l : List Hp) : List (Int × Int) := (((sprMap l0 l).map Prod.fst).mergeSort (fun x y => decide (x ≤ y))).map fun r => (r, lk (sprMap l0 l) r)
def encR (p : Int × Int) : List Value := [.int .i64 p.1, .int .i64 p.2]

theorem own_form {w : World} {base : Nat} {e : TypeId} {size : Nat} {v : Value} {n : Nat} {xs : List Value} (h : w.ownsRow base e size v n xs) :
    ∃ a c, v = .slice a n c ∧ (0 < n → ∃ g, a = some ⟨g, 0, none⟩ ∧ base ≤ g ∧ g < w.heap.size ∧ ∀ j, j < n * size → w.cell? ⟨g, j, none⟩ = xs[j]?) := by
  rcases h.2 with ⟨rfl, rfl⟩ | ⟨g, cap, cur, rfl, hb, hg, hr⟩
  · exact ⟨none, 0, rfl, fun h => absurd h (Nat.lt_irrefl 0)⟩
  · exact ⟨some ⟨g, 0, none⟩, cap, rfl, fun _ => ⟨g, rfl, hb, (Array.getElem?_eq_some_iff.1 hg).1, fun j hj => h.cellAt j hj⟩⟩

theorem flatMap_take_succ {α : Type} (f : α → List Value) (l : List α) (k : Nat) (h : k < l.length) : (l.take (k + 1)).flatMap f = (l.take k).flatMap f ++ f l[k] := by
  rw [List.take_succ_eq_append_getElem h, List.flatMap_append]; simp

theorem info37 : (Tryd.prog.info? 37).map (fun i => (i.zero, i.size, i.bytes)) = some (some (.agg #[.int .i64 0, .int .i64 0]), 2, 16) := by kernel_rfl

set_option maxRecDepth 100000 in
theorem spread_walk (b off c : Nat) (l : List Hp) (w : World) (hl : l.length ≤ 100) (hok : ∀ j, j < l.length → l[j]!.Ok) (hb : b < w.heap.size)
    (hc : ∀ j, j < l.length → ∀ i v, (l[j]!.enc)[i]? = some v → w.cell? ⟨b, off + j * 6 + i, none⟩ = some v) (p : Nat) (hp : p < l.length) (hp1 : (l[p]!.kind == 1) = true) (hp0 : ∀ j, j < p → (l[j]!.kind == 1) = false) :
    Calls Tryd.prog 12 #[.slice (some ⟨b, off, none⟩) l.length c] w fun e w' => ∃ v, e = .returned v ∧ w'.ownsRow w.heap.size 37 2 v (sprOf l[p]! l).length ((sprOf l[p]! l).flatMap encR) ∧ Below w.heap.size w w' := by
  have eg : ∀ args w, (callFunc 23 args).run Tryd.prog w = .ok (.enter 23 args) w := enters_of Tryd.func23 (by kernel_rfl) rfl
  have hmm := @run_makeMap Tryd.prog
  have hcon := AnyQ.slices_IndexFunc Tryd.idx 6 Tryd.isAgg31 Tryd.sizeOf31 Hp.enc (fun _ => rfl) (fun x => x.kind == 1) 23 #[] eg b off l.length c l w
    (fun W x hb => (spread1 x W).mono fun _ _ ⟨h1, h2⟩ => ⟨h1, hb.trans (h2.mono hb.size)⟩) (Nat.le_refl _) (by omega) hb hc
  change Calls Tryd.prog 21 _ _ _ at hcon
  have HC := Lib.hid hc
  clear hc
  rw [Lib.idxBy_hit (fun _ y => y.kind == 1) l l.length p default hp (Nat.le_refl _) hp1 hp0] at hcon
  clear hp1 hp0
  obtain ⟨i0, hi, hz0, hz1, hz2⟩ := info_parts info37
  go_enter Tryd.func12, Tryd.ntmps12
  go_wp2_with (go_at_call 21; refine hcon.mono ?_; rintro e w1 ⟨rfl, hb1⟩)
  have hs1 := hb1.size
  go_loopw [18] (fun i wr => ∃ k : Nat, k ≤ l.length ∧ i = .int .i64 k ∧ wr.ownsMap Tryd.prog 3 (plainElem Tryd.prog 3) w1.heap.size k (dm (sprMap l[p]! (l.take k))) ∧ Below w.heap.size w wr)
    (fun i _ => l.length - (intOf i).toNat)
  case atStart => exact ⟨0, Nat.zero_le _, rfl, World.ownsMap_made _ _ _ _, hb1.alloc hb1.size _⟩
  case round =>
    obtain ⟨k, hk, rfl, hown, hnx⟩ := hrel
    have hs2 := hnx.size
    have hne : b ≠ wr.heap.size := by omega
    have hmne : w1.heap.size ≠ wr.heap.size := by have := hown.lt; omega
    by_cases hlt : k < l.length
    · obtain ⟨l20, l21, l22, l23, l24, l25⟩ := hopCells (hc := HC.out) hnx hb k hlt
      have hr0 : wr.cell? ⟨b, off + p * 6 + 2, none⟩ = some (.int .i64 l[p]!.region) := (hnx.cell (p := ⟨b, off + p * 6 + 2, none⟩) hb).trans (HC.out p hp 2 _ rfl)
      have hr1 : wr.cell? ⟨b, off + p * 6 + 1, none⟩ = some (.int .i64 l[p]!.act) := (hnx.cell (p := ⟨b, off + p * 6 + 1, none⟩) hb).trans (HC.out p hp 1 _ rfl)
      have hox := hok k hlt
      have hoy := hok p hp
      have ht := sprMap_take l[p]! l k hlt
      generalize hx : l[k]! = x at l20 l21 l22 l23 l24 l25 hox ht
      generalize hy : l[p]! = y at hr0 hr1 hown hoy ht
      obtain ⟨_, hxa, hxr, _, _, _⟩ := hox
      obtain ⟨_, hya, hyr, _, _, _⟩ := hoy
      have HX := Lib.hid hx
      have HY := Lib.hid hy
      have HK := Lib.hid hok
      have hkey : keyOf Tryd.prog 3 (.int .i64 x.region) = some (.int .i64 x.region) := keyOf_int_mk Tryd.underlying3 (WalkArith.wf_i64 (by omega))
      clear hx hok
      have hp0 : (0 : Int) ≤ (p : Int) := by omega
      have hp1 : (p : Int) < (l.length : Int) := by omega
      have hsn := has_dm (sprMap y (l.take k)) x.region
      generalize sprMap y (l.take k) = M at hown hsn ht
      have HT := Lib.hid ht
      clear ht
      subst hy
      generalize l[p]! = y at *
      generalize hM : M.any (fun p => p.1 == x.region) = mb at hsn
      have hra : ∀ o, (wr.alloc o).cell? ⟨b, off + p * 6 + 2, none⟩ = some (.int .i64 y.region) := fun o => Lib.cell?_alloc_some _ hr0
      have hrb : ∀ o, (wr.alloc o).cell? ⟨b, off + p * 6 + 1, none⟩ = some (.int .i64 y.act) := fun o => Lib.cell?_alloc_some _ hr1
      have HW := Lib.hid (IntWalk.i64_in (x.act - y.act) (by omega))
      cases hk2 : (x.kind == 2) with
      | false =>
        go_wp2_with (at_lookup; refine wpList_lookup_own_ok_int _ rfl _ _ 51 rfl 3 3 .i64 law3 Tryd.underlying51 Tryd.underlying3 (zero3 _) w1.heap.size k _ rfl (hown.alloc _) _ _ rfl hkey ?_; intro c0 hat hwc)
        go_quiet (fail)
        go_wp2
        go_roundw
        case rel => exact ⟨k + 1, by omega, by go_num, by rw [HT.out, step_old (by simp [sprNew, *])]; exact (hown.alloc _).mono (Nat.le_succ k), pw_below_drewN (hnx.alloc hnx.size _) _⟩
        case measure => simp [intOf]; omega
      | true =>
        cases hmb : mb with
        | true =>
          subst hmb
          go_wp2_with (at_lookup; refine wpList_lookup_own_ok_int _ rfl _ _ 51 rfl 3 3 .i64 law3 Tryd.underlying51 Tryd.underlying3 (zero3 _) w1.heap.size k _ rfl (hown.alloc _) _ _ rfl hkey ?_; intro c0 hat hwc)
          go_quiet (fail)
          go_wp2
          go_roundw
          case rel => exact ⟨k + 1, by omega, by go_num, by rw [HT.out, step_old (by simp [sprNew, *])]; exact (hown.alloc _).mono (Nat.le_succ k), pw_below_drewN (hnx.alloc hnx.size _) _⟩
          case measure => simp [intOf]; omega
        | false =>
          subst hmb
          cases hre : (x.region != y.region) with
          | false =>
            go_wp2_with (at_lookup; refine wpList_lookup_own_ok_int _ rfl _ _ 51 rfl 3 3 .i64 law3 Tryd.underlying51 Tryd.underlying3 (zero3 _) w1.heap.size k _ rfl (hown.alloc _) _ _ rfl hkey ?_; intro c0 hat hwc)
            go_quiet (fail)
            go_wp2
            go_roundw
            case rel => exact ⟨k + 1, by omega, by go_num, by rw [HT.out, step_old (by simp [sprNew, *])]; exact (hown.alloc _).mono (Nat.le_succ k), pw_below_drewN (hnx.alloc hnx.size _) _⟩
            case measure => simp [intOf]; omega
          | true =>
            go_wp2_with (at_lookup; refine wpList_lookup_own_ok_int _ rfl _ _ 51 rfl 3 3 .i64 law3 Tryd.underlying51 Tryd.underlying3 (zero3 _) w1.heap.size k _ rfl (hown.alloc _) _ _ rfl hkey ?_; intro c0 hat hwc)
            go_quiet (fail)
            go_wp2
            refine region_tail 11 (by kernel_rfl) (by kernel_rfl) ?_
            simp only [List.take_succ_cons, List.take_zero, List.drop_succ_cons, List.drop_zero]
            repeat still_step
            refine wpStill_nil ?_
            refine wpList_mapUpdate_own _ rfl _ _ _ 51 rfl 3 3 law3 Tryd.underlying51 _ w1.heap.size k _ rfl (by exact hown.alloc _) (by unfold maxLen; omega) _ _ _ rfl rfl hkey _ [] (plainElem_int Tryd.underlying3 (by rw [HW.out]; exact WalkArith.wf_i64 (by omega))) ?_
            intro w2 hown2 hgrow2
            go_wp2
            go_roundw
            case rel => exact ⟨k + 1, by omega, by go_num, by rw [HT.out, step_new (by simp [sprNew, *]), dm_snoc]; rw [HW.out] at hown2; exact hown2, ((pw_below_drewN (hnx.alloc hnx.size _) _).drew).grown hgrow2 (by simp; omega) (fun j hj => by cases hj; omega)⟩
            case measure => simp [intOf]; omega
    · obtain rfl : k = l.length := by omega
      rw [List.take_length] at hown
      have hnd := nodup_spr l[p]! l
      have hln := len_spr l[p]! l
      have hkp := keys_perm hown hnd
      have hsz : Maps.size (dm (sprMap l[p]! l)) ≤ 100 := by
        have h1 := hkp.length_eq
        have h2 : Maps.size (dm (sprMap l[p]! l)) = (intKeys (dm (sprMap l[p]! l))).length := by
          obtain ⟨es, hD⟩ := isMap_dm (sprMap l[p]! l)
          rw [hD]; simp [Maps.size, intKeys]
        rw [h2, ← h1, List.length_map]; omega
      have hcK := keys_calls (some w1.heap.size) wr
      have hcS := sorted_keys hown (by unfold maxLen; omega) (by omega)
      have hat := fun r z => atKey_dm (sprMap l[p]! l) r z hnd
      have hfin : sprOf l[p]! l = (((sprMap l[p]! l).map Prod.fst).mergeSort (fun x y => decide (x ≤ y))).map fun r => (r, lk (sprMap l[p]! l) r) := rfl
      have HF := Lib.hid hfin
      clear hfin
      generalize sprMap l[p]! l = M at *
      have HN := Lib.hid hnd
      have HP := Lib.hid hkp
      have HL := Lib.hid hln
      have HA := Lib.hid hat
      have HZ := Lib.hid hsz
      clear hnd hkp hln hat hok hsz
      go_wp2_with (first | (go_at_call 25; refine hcK.mono ?_; rintro e w2 ⟨rfl, rfl⟩) | (go_at_call 24; refine hcS.mono ?_; rintro e w3 ⟨v3, ss, rfl, hperm, hrow, hb3⟩; obtain ⟨a3, c3, rfl, hcell3⟩ := own_form hrow))
      have hs3 : wr.heap.size + 1 ≤ w3.heap.size := by simpa using hb3.size
      have hm3 : w3.ownsMap Tryd.prog 3 (plainElem Tryd.prog 3) w1.heap.size l.length (dm M) := (hown.alloc _).kept (row := none) ⟨hb3.os, hb3.tape, hb3.output, hb3.size, fun k hk _ => hb3.block k (by simpa using hk)⟩ (by simp)
      have hmlt := hown.lt
      have hbw : Below w.heap.size w w3 := (hnx.alloc hnx.size _).trans (hb3.mono (by omega))
      have hssl : ss.length ≤ 100 := by
        have h1 := hperm.length_eq
        have h2 := HP.out.length_eq
        have h3 := HL.out
        rw [List.length_map] at h2
        omega
      obtain ⟨wo, rfl⟩ : ∃ wo : World, wo = wr := ⟨_, rfl⟩
      go_loopw [2, 62] (fun o i wq => ∃ k : Nat, k ≤ ss.length ∧ i = .int .i64 k ∧ wq.ownsRow w3.heap.size 37 2 o k ((((ss.mergeSort (fun x y => decide (x ≤ y))).take k).map (fun r => (r, lk M r))).flatMap encR) ∧ Below w3.heap.size w3 wq)
        (fun _ i _ => ss.length - (intOf i).toNat)
      case atStart => exact ⟨0, Nat.zero_le _, rfl, by simpa using World.ownsRow_nil _ _ _ _, Below.refl _ _⟩
      case round =>
        obtain ⟨k, hk, rfl, ho, hq⟩ := hrel
        have hq1 := hq.size
        have hlk : (ss.mergeSort (fun x y => decide (x ≤ y))).length = ss.length := List.length_mergeSort _
        by_cases hlt : k < ss.length
        · obtain ⟨g, rfl, hg1, hg2, hgc⟩ := hcell3 (by omega)
          have hkm : (ss.mergeSort (fun x y => decide (x ≤ y)))[k]'(by omega) ∈ M.map Prod.fst := by
            refine HP.out.mem_iff.2 (hperm.mem_iff.1 ((List.mergeSort_perm ss _).mem_iff.1 (List.getElem_mem _)))
          have htk := flatMap_take_succ encR ((ss.mergeSort (fun x y => decide (x ≤ y))).map (fun r => (r, lk M r))) k (by rw [List.length_map]; omega)
          simp only [← List.map_take, List.getElem_map] at htk
          have hkc : wr.cell? ⟨g, k, none⟩ = some (.int .i64 ((ss.mergeSort (fun x y => decide (x ≤ y)))[k]'(by omega))) := by
            rw [hq.cell (p := ⟨g, k, none⟩) (by exact hg2), hgc k (by omega), List.getElem?_map, List.getElem?_eq_getElem (by omega)]; rfl
          generalize (ss.mergeSort (fun x y => decide (x ≤ y)))[k]'(by omega) = r at hkm htk hkc
          have hat := HA.out r (.lit (.int .i64 0)) hkm
          have HAT := Lib.hid hat
          have HTK := Lib.hid htk
          have hkey : keyOf Tryd.prog 3 (.int .i64 r) = some (.int .i64 r) := keyOf_int_mk Tryd.underlying3 (intKeys_wf hown Tryd.underlying3 r (HP.out.mem_iff.1 hkm))
          have hmq : wr.ownsMap Tryd.prog 3 (plainElem Tryd.prog 3) w1.heap.size l.length (dm M) := hm3.kept (row := none) ⟨hq.os, hq.tape, hq.output, hq.size, fun k hk _ => hq.block k hk⟩ (by simp)
          clear hat htk hkm hgc hlk
          go_wp2_with (first
            | (at_lookup; refine wpList_lookup_own_int _ rfl _ _ 51 rfl 3 3 .i64 law3 Tryd.underlying51 Tryd.underlying3 (zero3 _) w1.heap.size l.length _ rfl hmq _ _ rfl hkey ?_; intro c0 hat0 _)
            | (at_builtin; refine wpList_append_own _ rfl _ _ 34 rfl w3.heap.size 37 i0 _ 2 16 Tryd.underlying34 hi hz0 hz1 hz2 rfl (by decide) _ _ _ rfl (ho.alloc _) ⟨wr.heap.size, 0, none⟩ 1 1 [.int .i64 r, .int .i64 c0] rfl rfl ?c1 ?c2 ?c3 ?c4 ?c5 ?_))
          case c1 => exact cell_two_new _ _ _ _
          case c2 => intro u hu; simp at hu; rcases hu with rfl | rfl <;> rfl
          case c3 => unfold maxLen; omega
          case c4 => omega
          case c5 => simp; omega
          intro v4 w4 ho4 hg4 _
          have hce : c0 = lk M r := by rw [HAT.out] at hat0; injection hat0 with h; injection h with h1 h2; exact h2.symm
          go_wp2
          go_roundw
          case rel => exact ⟨k + 1, by omega, by go_num, by rw [HTK.out]; subst hce; simpa [encR] using ho4, (hq.alloc hq.size _).grown hg4 (by simp; omega) (fun j hj => (ho.lt j hj).1)⟩
          case measure => simp [intOf]; omega
        · obtain rfl : k = ss.length := by omega
          have hmm2 : ss.mergeSort (fun x y => decide (x ≤ y)) = (M.map Prod.fst).mergeSort (fun x y => decide (x ≤ y)) := mergeSort_of_perm_i (hperm.trans HP.out.symm)
          have hlen2 : (sprOf l[p]! l).length = ss.length := by rw [HF.out, List.length_map, ← hmm2, List.length_mergeSort]
          have hfin : (sprOf l[p]! l).flatMap encR = (((ss.mergeSort (fun x y => decide (x ≤ y))).take ss.length).map (fun r => (r, lk M r))).flatMap encR := by
            rw [HF.out, ← hmm2, List.take_of_length_le (by rw [List.length_mergeSort]; exact Nat.le_refl _)]
          rw [← hfin] at ho
          have hfo : wr.ownsRow w.heap.size 37 2 u2 (sprOf l[p]! l).length ((sprOf l[p]! l).flatMap encR) := by rw [hlen2]; exact ownsRow_base_a ho (by omega)
          clear ho hfin hlen2 hmm2
          go_wp2
          go_ret
          exact ⟨_, rfl, hfo, hbw.trans (hq.mono (by omega))⟩
end Go.Proofs.YthjoohdmckfihaaDoor
