import Derived.Test.YthjoohdmckfihaaDoorA3
/-! Plain: what the reference's Spread makes is what trail's Spread makes. -/
namespace Go.Proofs.YthjoohdmckfihaaDoor
open Go.RowKit

/-- The place of a region. -/
def atR (out : List (Int × Int)) (r : Int) : Nat := (out.takeWhile (fun p => decide (p.1 < r))).length
/-- A region put in its place, if it isn't there. -/
def insR (out : List (Int × Int)) (r a : Int) : List (Int × Int) :=
  if (out[atR out r]?).map Prod.fst = some r then out else out.take (atR out r) ++ [(r, a)] ++ out.drop (atR out r)
def refStep (l0 : Hp) (out : List (Int × Int)) (h : Hp) : List (Int × Int) := if h.kind ≠ 2 ∨ h.region = l0.region then out else insR out h.region (h.act - l0.act)
def refOf (l0 : Hp) (l : List Hp) : List (Int × Int) := l.foldl (refStep l0) []
def refSpr (l : List Hp) : List (Int × Int) := match l.find? (fun h => h.kind == 1) with | none => [] | some l0 => refOf l0 l

def Rising (l : List (Int × Int)) : Prop := l.Pairwise (fun p q => p.1 < q.1)

theorem take_at (out : List (Int × Int)) (r : Int) : ∀ p ∈ out.take (atR out r), p.1 < r := by
  induction out with
  | nil => simp
  | cons x l ih =>
    unfold atR
    rw [List.takeWhile_cons]
    split
    · next h =>
      intro p hp
      simp only [List.length_cons, List.take_succ_cons, List.mem_cons] at hp
      rcases hp with rfl | hp
      · simpa using h
      · exact ih p hp
    · intro p hp; simp at hp
theorem drop_at {out : List (Int × Int)} (hs : Rising out) (r : Int) : ∀ p ∈ out.drop (atR out r), r ≤ p.1 := by
  induction out with
  | nil => simp
  | cons x l ih =>
    obtain ⟨h1, h2⟩ := List.pairwise_cons.1 hs
    unfold atR
    rw [List.takeWhile_cons]
    split
    · next h => intro p hp; simp only [List.length_cons, List.drop_succ_cons] at hp; exact ih h2 p hp
    · next h =>
      intro p hp
      simp only [List.length_nil, List.drop_zero, List.mem_cons] at hp
      have hx : r ≤ x.1 := by simpa using h
      rcases hp with rfl | hp
      · exact hx
      · have := h1 p hp; omega
theorem at_le (out : List (Int × Int)) (r : Int) : atR out r ≤ out.length := by
  unfold atR; exact (List.takeWhile_prefix _).length_le

theorem hit_iff {out : List (Int × Int)} (hs : Rising out) (r : Int) : (out[atR out r]?).map Prod.fst = some r ↔ r ∈ out.map Prod.fst := by
  constructor
  · intro h
    obtain ⟨p, hp, rfl⟩ := Option.map_eq_some_iff.1 h
    exact List.mem_map_of_mem (List.mem_of_getElem? hp)
  · intro h
    obtain ⟨p, hp, rfl⟩ := List.mem_map.1 h
    have hd : p ∈ out.drop (atR out p.1) := by
      rw [← List.take_append_drop (atR out p.1) out, List.mem_append] at hp
      rcases hp with hp | hp
      · have := take_at out p.1 p hp; omega
      · exact hp
    cases hq : out.drop (atR out p.1) with
    | nil => rw [hq] at hd; simp at hd
    | cons q rest =>
      have h0 : out[atR out p.1]? = some q := by
        have := congrArg (fun l => l[0]?) hq
        simpa using this
      rw [h0]
      have hsd : Rising (q :: rest) := hq ▸ hs.sublist (List.drop_sublist _ _)
      have h1 : p.1 ≤ q.1 := drop_at hs p.1 q (by rw [hq]; exact List.mem_cons_self ..)
      rw [hq] at hd
      rcases List.mem_cons.1 hd with rfl | hd
      · rfl
      · have := (List.pairwise_cons.1 hsd).1 p hd
        omega

theorem insR_rising {out : List (Int × Int)} (hs : Rising out) (r a : Int) : Rising (insR out r a) := by
  unfold insR
  split
  · exact hs
  · next h =>
    have hn : r ∉ out.map Prod.fst := fun hm => h ((hit_iff hs r).2 hm)
    unfold Rising
    rw [List.append_assoc, List.pairwise_append]
    refine ⟨hs.sublist (List.take_sublist _ _), ?_, ?_⟩
    · rw [List.singleton_append, List.pairwise_cons]
      refine ⟨fun p hp => ?_, hs.sublist (List.drop_sublist _ _)⟩
      have h1 := drop_at hs r p hp
      have h2 : p.1 ≠ r := fun e => hn (e ▸ List.mem_map_of_mem (List.mem_of_mem_drop hp))
      show r < p.1
      omega
    · intro p hp q hq
      have h1 := take_at out r p hp
      rcases List.mem_append.1 hq with hq | hq
      · rw [List.mem_singleton] at hq; subst hq; exact h1
      · have := drop_at hs r q hq
        omega
theorem insR_perm {out : List (Int × Int)} (r a : Int) (h : r ∉ out.map Prod.fst) (hs : Rising out) : (insR out r a).Perm (out ++ [(r, a)]) := by
  unfold insR
  rw [if_neg (fun hh => h ((hit_iff hs r).1 hh))]
  have h1 : (out.take (atR out r) ++ [(r, a)] ++ out.drop (atR out r)).Perm ((out.take (atR out r) ++ out.drop (atR out r)) ++ [(r, a)]) := by
    rw [List.append_assoc, List.append_assoc]
    exact List.Perm.append_left _ List.perm_append_comm
  rwa [List.take_append_drop] at h1
theorem insR_same {out : List (Int × Int)} (r a : Int) (h : r ∈ out.map Prod.fst) (hs : Rising out) : insR out r a = out := by
  unfold insR; rw [if_pos ((hit_iff hs r).2 h)]

theorem ref_inv (l0 : Hp) : ∀ (l : List Hp) (out M : List (Int × Int)), Rising out → out.Perm M → Rising (l.foldl (refStep l0) out) ∧ (l.foldl (refStep l0) out).Perm (l.foldl (sprStep l0) M)
  | [], out, M, h1, h2 => ⟨h1, h2⟩
  | x :: l, out, M, h1, h2 => by
    have hk : ∀ r, r ∈ out.map Prod.fst ↔ r ∈ M.map Prod.fst := fun r => (h2.map Prod.fst).mem_iff
    simp only [List.foldl_cons]
    refine ref_inv l0 l _ _ ?_ ?_
    · unfold refStep; split
      · exact h1
      · exact insR_rising h1 _ _
    · unfold refStep sprStep
      split
      · next hc =>
        rw [if_neg]
        · exact h2
        · unfold sprNew; simp only [Bool.and_eq_true, beq_iff_eq, bne_iff_ne, ne_eq, not_and]
          intro hk2 _ hr
          rcases hc with hc | hc
          · exact hc hk2
          · exact hr hc
      · next hc =>
        have hc' : x.kind = 2 ∧ x.region ≠ l0.region := by
          refine ⟨?_, ?_⟩
          · exact Decidable.byContradiction fun h => hc (.inl h)
          · exact fun h => hc (.inr h)
        by_cases hm : x.region ∈ out.map Prod.fst
        · rw [insR_same _ _ hm h1, if_neg]
          · exact h2
          · have := (hk _).1 hm
            rw [← any_fst] at this
            unfold sprNew; rw [this]; simp
        · rw [if_pos]
          · exact (insR_perm _ _ hm h1).trans (h2.append_right _)
          · have h3 : M.any (fun p => p.1 == x.region) = false := by
              rw [Bool.eq_false_iff]
              exact fun h => hm ((hk _).2 ((any_fst M x.region).1 h))
            unfold sprNew; rw [h3]; simp [hc'.1, hc'.2]

theorem lk_mem {M : List (Int × Int)} (hn : (M.map Prod.fst).Nodup) {p : Int × Int} (hp : p ∈ M) : lk M p.1 = p.2 := by
  induction M with
  | nil => simp at hp
  | cons x M ih =>
    rw [List.map_cons, List.nodup_cons] at hn
    unfold lk
    rcases List.mem_cons.1 hp with rfl | hp
    · simp
    · have : x.1 ≠ p.1 := fun e => hn.1 (e ▸ List.mem_map_of_mem hp)
      rw [List.find?_cons_of_neg (by simpa using this)]
      exact ih hn.2 hp

theorem map_lk {M : List (Int × Int)} (hn : (M.map Prod.fst).Nodup) : (M.map Prod.fst).map (fun r => (r, lk M r)) = M := by
  rw [List.map_map]
  have : M.map ((fun r => (r, lk M r)) ∘ Prod.fst) = M.map id := List.map_congr_left fun p hp => by
    show (p.1, lk M p.1) = p
    rw [lk_mem hn hp]
  rw [this, List.map_id]

theorem spr_perm (l0 : Hp) (l : List Hp) : (sprOf l0 l).Perm (sprMap l0 l) := by
  have h := ((List.mergeSort_perm ((sprMap l0 l).map Prod.fst) (fun x y => decide (x ≤ y))).map (fun r => (r, lk (sprMap l0 l) r)))
  rw [map_lk (nodup_spr l0 l)] at h
  exact h
theorem spr_rising (l0 : Hp) (l : List Hp) : Rising (sprOf l0 l) := by
  unfold Rising sprOf
  rw [List.pairwise_map]
  have hs : ((sprMap l0 l).map Prod.fst).mergeSort (fun x y => decide (x ≤ y)) |>.Pairwise (fun x y => decide (x ≤ y) = true) :=
    List.pairwise_mergeSort (fun a b c => by simp; omega) (fun a b => by simp; omega) _
  have hnd : (((sprMap l0 l).map Prod.fst).mergeSort (fun x y => decide (x ≤ y))).Nodup := (List.mergeSort_perm _ _).nodup_iff.2 (nodup_spr l0 l)
  refine (hs.and hnd).imp ?_
  intro a b ⟨h1, h2⟩
  have : a ≤ b := by simpa using h1
  show a < b
  omega

theorem rising_eq {a b : List (Int × Int)} (ha : Rising a) (hb : Rising b) (h : a.Perm b) : a = b :=
  List.Perm.eq_of_pairwise (le := fun (p q : Int × Int) => p.1 < q.1) (fun p q _ _ (h1 : p.1 < q.1) (h2 : q.1 < p.1) => absurd h1 (by omega)) ha hb h

/-- The reference's Spread is trail's. -/
theorem refSpr_eq (l : List Hp) : refSpr l = spr l := by
  unfold refSpr spr
  cases l.find? (fun h => h.kind == 1) with
  | none => rfl
  | some l0 =>
    obtain ⟨h1, h2⟩ := ref_inv l0 l [] [] List.Pairwise.nil (List.Perm.refl _)
    exact rising_eq h1 (spr_rising l0 l) (h2.trans (spr_perm l0 l).symm)
end Go.Proofs.YthjoohdmckfihaaDoor
