import Derived.Test.YthjoohdmckfihaaDoorL7
import Derived.Deep.Slices
import Derived.OpenShut
import Derived.Test.YthjoohdmckfihaaDoorRows
import Derived.Lib.LaidTab
namespace Go.Proofs.YthjoohdmckfihaaDoor
open Go.RowKit Go.Deep

section
variable {H : Type} {enc : TypeId × Value → H} {P : Program} {w : World} {base : Nat} {spare : Nat → Bool} {held : Bool}

/-- A slice of elements of k cells, as it is read. -/
theorem read_row {t e k fuel : Nat} {v : Value} {x : DataW H × List MemPlace} (ht : P.underlying t = some (.slice e)) (hk : P.cellsOf e = k) (hk0 : 0 < k) (h : DataW.trod enc P w base spare held fuel t [v] = some x) :
    ∃ a len cap, v = .slice a len cap ∧ len ≤ cap ∧ cap ≤ maxLen ∧ (0 < len → ∃ b off n, a = some ⟨b, off, none⟩ ∧ b < w.heap.size ∧
      ∀ i, i < len → ∃ cs' y, cs'.length = k ∧ (∀ j u, cs'[j]? = some u → w.cell? ⟨b, off + i * k + j, none⟩ = some u) ∧ DataW.trod enc P w base spare held n e cs' = some y) := by
  rcases open_slice ht h with ⟨hcs, _⟩ | ⟨a, len, cap, m, n, D, Pl, hcs, _, hlc, hcm, hm, _, hel⟩
  · simp only [List.cons.injEq, and_true] at hcs
    subst hcs
    exact ⟨none, 0, 0, rfl, Nat.le_refl _, Nat.zero_le _, fun h => absurd h (Nat.lt_irrefl 0)⟩
  · simp only [List.cons.injEq, and_true] at hcs
    subst hcs
    refine ⟨some a, len, cap, rfl, hlc, hcm, fun h0 => ?_⟩
    have hlm : len ≤ m := by subst hm; split <;> omega
    have hcell : ∀ i, i < len → ∃ cs', cs'.length = k ∧ (∀ j u, cs'[j]? = some u → w.cell? (a.add (i * k + j)) = some u) ∧ DataW.trod enc P w base spare held n e cs' = some (D i, Pl i) := by
      intro i hi
      obtain ⟨cs', h1, h2⟩ := hel i (by omega)
      rw [hk] at h1
      obtain ⟨_, hl, hg⟩ := World.cells?_some h1
      refine ⟨cs', hl, fun j u hu => ?_, h2⟩
      have hj : j < k := by rw [← hl]; exact (List.getElem?_eq_some_iff.1 hu).1
      rw [← add_add, hg j hj, hu]
    obtain ⟨b, off, spot⟩ := a
    have hspot : spot = none := by
      obtain ⟨cs', hl, hg, _⟩ := hcell 0 h0
      have := hg 0 _ (List.getElem?_eq_getElem (by omega))
      simp only [Nat.zero_mul, Nat.add_zero] at this
      exact World.cell?_spot (by simpa [Addr.add] using this)
    subst hspot
    have hplain : ∀ n, (⟨b, off, none⟩ : Addr).add n = ⟨b, off + n, none⟩ := fun n => Go.WideShapes.add_plain b off n
    have hb : b < w.heap.size := by
      obtain ⟨cs', hl, hg, _⟩ := hcell 0 h0
      have := hg 0 _ (List.getElem?_eq_getElem (by omega))
      rw [hplain] at this
      exact World.block_lt_of_cell? w _ this
    refine ⟨b, off, n, rfl, hb, fun i hi => ?_⟩
    obtain ⟨cs', hl, hg, ht'⟩ := hcell i hi
    exact ⟨cs', _, hl, fun j u hu => by have := hg j u hu; rw [hplain, ← Nat.add_assoc] at this; exact this, ht'⟩

/-- A field of a struct of one-cell fields. -/
theorem read_int {t : TypeId} {k : IntKind} {fuel : Nat} {cs : List Value} {i : Nat} {y : Option (DataW H × List MemPlace)} (ht : P.underlying t = some (.int k)) (hc : P.cellsOf t = 1)
    (h : DataW.trod enc P w base spare held fuel t ((cs.drop i).take (P.cellsOf t)) = y) (hy : y.isSome) : ∃ n, cs[i]? = some (.int k n) ∧ (Lit.int k n).wf = true := by
  obtain ⟨z, rfl⟩ := Option.isSome_iff_exists.1 hy
  obtain ⟨n, h1, _, h3⟩ := DataW.trod_int ht h
  have h4 := congrArg (fun l => l[0]?) h1
  rw [hc] at h4
  exact ⟨n, by simpa using h4, h3⟩
theorem read_str {t : TypeId} {fuel : Nat} {cs : List Value} {i : Nat} {y : Option (DataW H × List MemPlace)} (ht : P.underlying t = some .string) (hc : P.cellsOf t = 1)
    (h : DataW.trod enc P w base spare held fuel t ((cs.drop i).take (P.cellsOf t)) = y) (hy : y.isSome) : ∃ s : ByteArray, cs[i]? = some (.string s) ∧ s.size ≤ maxLen := by
  obtain ⟨z, rfl⟩ := Option.isSome_iff_exists.1 hy
  obtain ⟨n, h1, _, h3⟩ := DataW.trod_string ht h
  have h4 := congrArg (fun l => l[0]?) h1
  rw [hc] at h4
  exact ⟨n, by simpa using h4, h3⟩
end

theorem cells3 : Tryd.prog.cellsOf 3 = 1 := by kernel_rfl
theorem cells9 : Tryd.prog.cellsOf 9 = 1 := by kernel_rfl
theorem cells28 : Tryd.prog.cellsOf 28 = 1 := by kernel_rfl
theorem cells29 : Tryd.prog.cellsOf 29 = 1 := by kernel_rfl
theorem cells31 : Tryd.prog.cellsOf 31 = 6 := by kernel_rfl

theorem read_hop {H : Type} {enc : TypeId × Value → H} {w : World} {base : Nat} {spare : Nat → Bool} {held : Bool} {n : Nat} {cs : List Value} {y : DataW H × List MemPlace} (h : DataW.trod enc Tryd.prog w base spare held n 31 cs = some y) :
    ∃ x : Hp, cs = x.enc ∧ (-9223372036854775808 ≤ x.kind ∧ x.kind ≤ 9223372036854775807) := by
  obtain ⟨xs, m, _, _, hl, hlen, hf⟩ := DataW.trod_struct Tryd.underlying31 h
  rw [cells31] at hl
  have hlen' : xs.length = 6 := hlen
  obtain ⟨k, h0, w0⟩ := read_int (i := 0) Tryd.underlying28 cells28 (hf 0 _ rfl) (by rw [List.getElem?_eq_getElem (by omega)]; rfl)
  obtain ⟨a, h1, _⟩ := read_int (i := 1) Tryd.underlying3 cells3 (hf 1 _ rfl) (by rw [List.getElem?_eq_getElem (by omega)]; rfl)
  obtain ⟨r, h2, _⟩ := read_int (i := 2) Tryd.underlying3 cells3 (hf 2 _ rfl) (by rw [List.getElem?_eq_getElem (by omega)]; rfl)
  obtain ⟨s, h3, _⟩ := read_int (i := 3) Tryd.underlying3 cells3 (hf 3 _ rfl) (by rw [List.getElem?_eq_getElem (by omega)]; rfl)
  obtain ⟨c, h4, _⟩ := read_int (i := 4) Tryd.underlying29 cells29 (hf 4 _ rfl) (by rw [List.getElem?_eq_getElem (by omega)]; rfl)
  obtain ⟨d, h5, _⟩ := read_str (i := 5) Tryd.underlying9 cells9 (hf 5 _ rfl) (by rw [List.getElem?_eq_getElem (by omega)]; rfl)
  refine ⟨⟨k, a, r, s, c, d⟩, ?_, ?_⟩
  · refine List.ext_getElem? fun i => ?_
    match i with
    | 0 => exact h0
    | 1 => exact h1
    | 2 => exact h2
    | 3 => exact h3
    | 4 => exact h4
    | 5 => exact h5
    | n + 6 => rw [List.getElem?_eq_none (by omega)]; rfl
  · exact bounds_i64 w0

theorem read_hops {H : Type} {enc : TypeId × Value → H} {w : World} {base : Nat} {spare : Nat → Bool} {held : Bool} {fuel : Nat} {v : Value} {x : DataW H × List MemPlace} (h : DataW.trod enc Tryd.prog w base spare held fuel 22 [v] = some x) :
    ∃ l : List Hp, HopsIn w v l ∧ l.length ≤ 9223372036854775807 ∧ KindsOk l := by
  obtain ⟨a, len, cap, rfl, hlc, hcm, hel⟩ := read_row Tryd.underlying22 cells31 (by omega) h
  by_cases h0 : 0 < len
  · obtain ⟨b, off, n, rfl, hb, hc⟩ := hel h0
    obtain ⟨f, hf⟩ := choose_lt (n := len) (p := fun i (x : Hp) => (∀ j u, x.enc[j]? = some u → w.cell? ⟨b, off + i * 6 + j, none⟩ = some u) ∧ (-9223372036854775808 ≤ x.kind ∧ x.kind ≤ 9223372036854775807)) (fun i hi => by
      obtain ⟨cs', y, _, hg, ht⟩ := hc i hi
      obtain ⟨x, rfl, hx⟩ := read_hop ht
      exact ⟨x, hg, hx⟩)
    refine ⟨(List.range len).map f, ⟨_, cap, by simp, fun _ => ⟨b, off, rfl, hb, fun j hj i v hv => ?_⟩⟩, by unfold maxLen at hcm; simp; omega, fun j hj => ?_⟩
    · simp at hj
      rw [getElem!_pos _ j (by simpa using hj)] at hv
      simp at hv
      exact (hf j hj).1 i v hv
    · simp at hj
      rw [getElem!_pos _ j (by simpa using hj)]
      simpa using (hf j hj).2
  · obtain rfl : len = 0 := by omega
    exact ⟨[], ⟨a, cap, rfl, fun h => absurd h (Nat.lt_irrefl 0)⟩, by simp, fun j hj => absurd hj (Nat.not_lt_zero _)⟩

theorem tabIs_of_vars {P : Program} {W : World} {name : String} {k : IntKind} {zs : List Int} {rest : List (String × DataW Unit)} {ps : List MemPlace} {g : Nat} {t e : TypeId} {n : Nat}
    (hg : P.globalNamed name = some g) (hty : (P.globals[g]?).map (·.type) = some t) (ht : P.underlying t = some (.array n e)) (he : P.underlying e = some (.int k)) (hce : P.cellsOf e = 1) (hct : P.cellsOf t = n)
    (h : DataW.LaidVars P W ((name, Lib.tabData k zs) :: rest) ps) : Lib.TabIs P W name k zs := by
  obtain ⟨g', t', cs, fuel, p, q, hg', ht', hvar, hd, _, _⟩ := h
  obtain rfl := Option.some.inj (hg.symm.trans hg')
  obtain rfl := Option.some.inj (hty.symm.trans ht')
  unfold Lib.TabIs
  rw [hvar, ← Lib.cells_of_tab ht he hce hct hd]

/-- What the rows' list gives. -/
theorem pow_of_laid {W : World} (h : laidMetH Tryd.prog [("math/bits.deBruijn32tab", Rows.laid_math_bits_deBruijn32tab), ("math/bits.deBruijn64tab", Rows.laid_math_bits_deBruijn64tab), ("internal/strconv.uint64pow10", Rows.laid_internal_strconv_uint64pow10)] W) : Pow W := by
  have h' : laidMet Tryd.prog [("math/bits.deBruijn32tab", Rows.laid_math_bits_deBruijn32tab), ("math/bits.deBruijn64tab", Rows.laid_math_bits_deBruijn64tab), ("internal/strconv.uint64pow10", Rows.laid_internal_strconv_uint64pow10)] W := h
  obtain ⟨ps, hV, _⟩ := h'
  obtain ⟨_, _, _, _, _, _, _, _, _, _, hV, _⟩ := hV
  obtain ⟨_, _, _, _, _, _, _, _, _, _, hV, _⟩ := hV
  exact tabIs_of_vars (g := 0) (t := 132) (e := 58) (n := 20) (by kernel_rfl) (by kernel_rfl) Tryd.underlying132 Tryd.underlying58 (by kernel_rfl) (by kernel_rfl) hV
end Go.Proofs.YthjoohdmckfihaaDoor
