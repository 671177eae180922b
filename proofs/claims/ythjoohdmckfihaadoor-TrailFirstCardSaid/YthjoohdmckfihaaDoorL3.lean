import Derived.Test.YthjoohdmckfihaaDoorL2
import Derived.Test.YthjoohdmckfihaaDoorA3
namespace Go.Proofs.YthjoohdmckfihaaDoor
open Go.RowKit Go.Lib

/-- The words of a line. -/
def wPub : List UInt8 := [32, 112, 117, 98, 108, 105, 115, 104, 101, 100, 32]
def wCame : List UInt8 := [32, 99, 97, 109, 101, 32]
def wRef : List UInt8 := [32, 114, 101, 102, 117, 115, 101, 100, 32]
def wPol : List UInt8 := [32, 112, 111, 108, 108, 101, 100, 32]

/-- A hop's line. -/
def lineL (x : Hp) : List UInt8 :=
  if x.kind = 1 then itoa x.act ++ wPub ++ itoa x.region
  else if x.kind = 2 then itoa x.act ++ wCame ++ itoa x.region ++ [32] ++ itoa x.src
  else if x.kind = 3 then itoa x.act ++ wRef ++ itoa x.region ++ [32] ++ itoa x.src ++ [32] ++ itoa x.code
  else if x.kind = 4 then itoa x.act ++ wPol ++ itoa x.region ++ [32] ++ x.device.data.toList
  else itoa x.act ++ [32, 63]

theorem cat_size (a b : ByteArray) : (a ++ b).size = a.size + b.size := ByteArray.size_append
theorem str_toList (s : ByteArray) : str s.data.toList = s := by cases s; simp [str]

/-- A few bytes. -/
abbrev Few (n : Nat) : Prop := (9223372036854775807 < n) = False
theorem few {n : Nat} (h : n ≤ 1000) : Few n := eq_false (by omega)

theorem itoa_size (n : Int) (h : -9223372036854775808 ≤ n ∧ n ≤ 9223372036854775807) : (str (itoa n)).size ≤ 21 := by
  rw [str_size]; exact itoa_len n h.1 h.2

/-- Three cells of a block are kept by what lies behind. -/
theorem keep3 {W w2 : World} {g a b c : Nat} {u v z : Option Value} (hb : Below W.heap.size W w2) (hlt : g < W.heap.size) (h : W.cell? ⟨g, a, none⟩ = u ∧ W.cell? ⟨g, b, none⟩ = v ∧ W.cell? ⟨g, c, none⟩ = z) :
    w2.cell? ⟨g, a, none⟩ = u ∧ w2.cell? ⟨g, b, none⟩ = v ∧ w2.cell? ⟨g, c, none⟩ = z :=
  ⟨(hb.cell (p := ⟨g, a, none⟩) hlt).trans h.1, (hb.cell (p := ⟨g, b, none⟩) hlt).trans h.2.1, (hb.cell (p := ⟨g, c, none⟩) hlt).trans h.2.2⟩





set_option maxRecDepth 100000 in
theorem refline_1 (x : Hp) (w : World) (hk : x.kind = 1) (ha : -9223372036854775808 < x.act ∧ x.act ≤ 9223372036854775807) (hr : -9223372036854775808 < x.region ∧ x.region ≤ 9223372036854775807)
    (hs : -9223372036854775808 < x.src ∧ x.src ≤ 9223372036854775807) (hco : -9223372036854775808 < x.code ∧ x.code ≤ 9223372036854775807) (_hdv : x.device.size ≤ 300) :
    Calls Tryd.prog 9 #[.agg #[.int .i64 x.kind, .int .i64 x.act, .int .i64 x.region, .int .i64 x.src, .int .i64 x.code, .string x.device]] w
      fun e w' => e = .returned (.string (str (lineL x))) ∧ Below w.heap.size w w' := by
  have hfin : str (lineL x) = str (itoa x.act) ++ (⟨#[32, 112, 117, 98, 108, 105, 115, 104, 101, 100, 32]⟩ : ByteArray) ++ str (itoa x.region) := by
    rw [lineL, if_pos hk, ← str_append, ← str_append]; rfl
  rw [hfin]
  clear hfin
  have nA := fun W => num_any x.act W ha.1 ha.2
  have nB := fun W => num_any x.region W hr.1 hr.2
  have nC := fun W => num_any x.src W hs.1 hs.2
  have nD := fun W => num_any x.code W hco.1 hco.2
  have hA := itoa_size x.act ⟨by omega, by omega⟩
  have hB := itoa_size x.region ⟨by omega, by omega⟩
  have hC := itoa_size x.src ⟨by omega, by omega⟩
  have hD := itoa_size x.code ⟨by omega, by omega⟩
  clear ha hr hs hco
  generalize str (itoa x.act) = A at *
  generalize str (itoa x.region) = B at *
  have f1 : Few (A.size + 11) := few (by omega)
  have f2 : Few (A.size + 11 + B.size) := few (by omega)
  have t1 : (x.kind == 1) = true := by simp [hk]
  clear hk
  go_enter Tryd.func9, Tryd.ntmps9
  have tokA : True := trivial
  go_wp2_with (first | (go_at_call 20; have _t := tokA; refine (nA _).mono ?_; rintro e w1 ⟨rfl, hb1⟩; obtain ⟨hbc, _⟩ := bcell hb1; have hbz := hb1.size; clear tokA) | (go_at_call 20; refine (nB _).mono ?_; rintro e w2 ⟨rfl, hb2⟩))
  go_ret
  exact ⟨rfl, ((Below.refl _ w).alloc (Nat.le_refl _) _).trans ((hb1.mono (by simp)).trans (hb2.mono (by simp at hbz; omega)))⟩

set_option maxRecDepth 100000 in
theorem refline_2 (x : Hp) (w : World) (hk : x.kind = 2) (ha : -9223372036854775808 < x.act ∧ x.act ≤ 9223372036854775807) (hr : -9223372036854775808 < x.region ∧ x.region ≤ 9223372036854775807)
    (hs : -9223372036854775808 < x.src ∧ x.src ≤ 9223372036854775807) (hco : -9223372036854775808 < x.code ∧ x.code ≤ 9223372036854775807) (_hdv : x.device.size ≤ 300) :
    Calls Tryd.prog 9 #[.agg #[.int .i64 x.kind, .int .i64 x.act, .int .i64 x.region, .int .i64 x.src, .int .i64 x.code, .string x.device]] w
      fun e w' => e = .returned (.string (str (lineL x))) ∧ Below w.heap.size w w' := by
  have hfin : str (lineL x) = str (itoa x.act) ++ (⟨#[32, 99, 97, 109, 101, 32]⟩ : ByteArray) ++ str (itoa x.region) ++ (⟨#[32]⟩ : ByteArray) ++ str (itoa x.src) := by
    rw [lineL, if_neg (by omega), if_pos hk, ← str_append, ← str_append, ← str_append, ← str_append]; rfl
  rw [hfin]
  clear hfin
  have nA := fun W => num_any x.act W ha.1 ha.2
  have nB := fun W => num_any x.region W hr.1 hr.2
  have nC := fun W => num_any x.src W hs.1 hs.2
  have nD := fun W => num_any x.code W hco.1 hco.2
  have hA := itoa_size x.act ⟨by omega, by omega⟩
  have hB := itoa_size x.region ⟨by omega, by omega⟩
  have hC := itoa_size x.src ⟨by omega, by omega⟩
  have hD := itoa_size x.code ⟨by omega, by omega⟩
  clear ha hr hs hco
  generalize str (itoa x.act) = A at *
  generalize str (itoa x.region) = B at *
  generalize str (itoa x.src) = C at *
  have f1 : Few (A.size + 6) := few (by omega)
  have f2 : Few (A.size + 6 + B.size) := few (by omega)
  have f3 : Few (A.size + 6 + B.size + 1) := few (by omega)
  have f4 : Few (A.size + 6 + B.size + 1 + C.size) := few (by omega)
  have t1 : (x.kind == 1) = false := by simp [hk]
  have t2 : (x.kind == 2) = true := by simp [hk]
  clear hk
  go_enter Tryd.func9, Tryd.ntmps9
  go_wp2_with (go_at_call 20; refine (nA _).mono ?_; rintro e w1 ⟨rfl, hb1⟩; obtain ⟨hbc, _⟩ := bcell hb1; have hbz := hb1.size)
  have hbz' : w.heap.size < w1.heap.size := by simpa [Nat.succ_le_iff] using hbz
  have tokB : True := trivial
  go_region_held3 (fun w' => w'.cell? ⟨w.heap.size, 2, none⟩ = some (.int .i64 x.region) ∧ w'.cell? ⟨w.heap.size, 3, none⟩ = some (.int .i64 x.src) ∧ w'.cell? ⟨w.heap.size, 4, none⟩ = some (.int .i64 x.code))
    (first | exact keep3 hb3 hbz2 (by assumption) | exact keep3 hb2 hbz' (by assumption) | go_keep)
    (first | (go_at_call 20; have _t := tokB; refine (nB _).mono ?_; rintro e w2 ⟨rfl, hb2⟩; have hbz2 : w.heap.size < w2.heap.size := Nat.lt_of_lt_of_le hbz' hb2.size; clear tokB) | (go_at_call 20; refine (nC _).mono ?_; rintro e w3 ⟨rfl, hb3⟩))
  go_wp2
  go_ret
  exact ⟨rfl, ((((Below.refl w.heap.size w).alloc (Nat.le_refl _) _).trans (hb1.mono (by simp))).drew.trans (hb2.mono (by first | omega | (simp; omega)))).trans (hb3.mono (by first | omega | (simp; omega)))⟩

set_option maxRecDepth 100000 in
theorem refline_3 (x : Hp) (w : World) (hk : x.kind = 3) (ha : -9223372036854775808 < x.act ∧ x.act ≤ 9223372036854775807) (hr : -9223372036854775808 < x.region ∧ x.region ≤ 9223372036854775807)
    (hs : -9223372036854775808 < x.src ∧ x.src ≤ 9223372036854775807) (hco : -9223372036854775808 < x.code ∧ x.code ≤ 9223372036854775807) (_hdv : x.device.size ≤ 300) :
    Calls Tryd.prog 9 #[.agg #[.int .i64 x.kind, .int .i64 x.act, .int .i64 x.region, .int .i64 x.src, .int .i64 x.code, .string x.device]] w
      fun e w' => e = .returned (.string (str (lineL x))) ∧ Below w.heap.size w w' := by
  have hfin : str (lineL x) = str (itoa x.act) ++ (⟨#[32, 114, 101, 102, 117, 115, 101, 100, 32]⟩ : ByteArray) ++ str (itoa x.region) ++ (⟨#[32]⟩ : ByteArray) ++ str (itoa x.src) ++ (⟨#[32]⟩ : ByteArray) ++ str (itoa x.code) := by
    rw [lineL, if_neg (by omega), if_neg (by omega), if_pos hk, ← str_append, ← str_append, ← str_append, ← str_append, ← str_append, ← str_append]; rfl
  rw [hfin]
  clear hfin
  have nA := fun W => num_any x.act W ha.1 ha.2
  have nB := fun W => num_any x.region W hr.1 hr.2
  have nC := fun W => num_any x.src W hs.1 hs.2
  have nD := fun W => num_any x.code W hco.1 hco.2
  have hA := itoa_size x.act ⟨by omega, by omega⟩
  have hB := itoa_size x.region ⟨by omega, by omega⟩
  have hC := itoa_size x.src ⟨by omega, by omega⟩
  have hD := itoa_size x.code ⟨by omega, by omega⟩
  clear ha hr hs hco
  generalize str (itoa x.act) = A at *
  generalize str (itoa x.region) = B at *
  generalize str (itoa x.src) = C at *
  generalize str (itoa x.code) = D at *
  have f1 : Few (A.size + 9) := few (by omega)
  have f2 : Few (A.size + 9 + B.size) := few (by omega)
  have f3 : Few (A.size + 9 + B.size + 1) := few (by omega)
  have f4 : Few (A.size + 9 + B.size + 1 + C.size) := few (by omega)
  have f5 : Few (A.size + 9 + B.size + 1 + C.size + 1) := few (by omega)
  have f6 : Few (A.size + 9 + B.size + 1 + C.size + 1 + D.size) := few (by omega)
  have t1 : (x.kind == 1) = false := by simp [hk]
  have t2 : (x.kind == 2) = false := by simp [hk]
  have t3 : (x.kind == 3) = true := by simp [hk]
  clear hk
  go_enter Tryd.func9, Tryd.ntmps9
  go_wp2_with (go_at_call 20; refine (nA _).mono ?_; rintro e w1 ⟨rfl, hb1⟩; obtain ⟨hbc, _⟩ := bcell hb1; have hbz := hb1.size)
  have hbz' : w.heap.size < w1.heap.size := by simpa [Nat.succ_le_iff] using hbz
  have tokB : True := trivial
  have tokC : True := trivial
  go_region_held3 (fun w' => w'.cell? ⟨w.heap.size, 2, none⟩ = some (.int .i64 x.region) ∧ w'.cell? ⟨w.heap.size, 3, none⟩ = some (.int .i64 x.src) ∧ w'.cell? ⟨w.heap.size, 4, none⟩ = some (.int .i64 x.code))
    (first | exact keep3 hb4 hbz3 (by assumption) | exact keep3 hb3 hbz2 (by assumption) | exact keep3 hb2 hbz' (by assumption) | go_keep)
    (first
      | (go_at_call 20; have _t := tokB; refine (nB _).mono ?_; rintro e w2 ⟨rfl, hb2⟩; have hbz2 : w.heap.size < w2.heap.size := Nat.lt_of_lt_of_le hbz' hb2.size; clear tokB)
      | (go_at_call 20; have _t := tokC; refine (nC _).mono ?_; rintro e w3 ⟨rfl, hb3⟩; have hbz3 : w.heap.size < w3.heap.size := Nat.lt_of_lt_of_le hbz2 hb3.size; clear tokC)
      | (go_at_call 20; refine (nD _).mono ?_; rintro e w4 ⟨rfl, hb4⟩))
  go_wp2
  go_ret
  exact ⟨rfl, (((((Below.refl w.heap.size w).alloc (Nat.le_refl _) _).trans (hb1.mono (by simp))).drew.trans (hb2.mono (by first | omega | (simp; omega)))).trans (hb3.mono (by first | omega | (simp; omega)))).trans (hb4.mono (by first | omega | (simp; omega)))⟩

set_option maxRecDepth 100000 in
theorem refline_4 (x : Hp) (w : World) (hk : x.kind = 4) (ha : -9223372036854775808 < x.act ∧ x.act ≤ 9223372036854775807) (hr : -9223372036854775808 < x.region ∧ x.region ≤ 9223372036854775807)
    (hs : -9223372036854775808 < x.src ∧ x.src ≤ 9223372036854775807) (hco : -9223372036854775808 < x.code ∧ x.code ≤ 9223372036854775807) (_hdv : x.device.size ≤ 300) :
    Calls Tryd.prog 9 #[.agg #[.int .i64 x.kind, .int .i64 x.act, .int .i64 x.region, .int .i64 x.src, .int .i64 x.code, .string x.device]] w
      fun e w' => e = .returned (.string (str (lineL x))) ∧ Below w.heap.size w w' := by
  have hfin : str (lineL x) = str (itoa x.act) ++ (⟨#[32, 112, 111, 108, 108, 101, 100, 32]⟩ : ByteArray) ++ str (itoa x.region) ++ (⟨#[32]⟩ : ByteArray) ++ x.device := by
    rw [lineL, if_neg (by omega), if_neg (by omega), if_neg (by omega), if_pos hk, ← str_append, ← str_append, ← str_append, ← str_append, str_toList]; rfl
  rw [hfin]
  clear hfin
  have nA := fun W => num_any x.act W ha.1 ha.2
  have nB := fun W => num_any x.region W hr.1 hr.2
  have nC := fun W => num_any x.src W hs.1 hs.2
  have nD := fun W => num_any x.code W hco.1 hco.2
  have hA := itoa_size x.act ⟨by omega, by omega⟩
  have hB := itoa_size x.region ⟨by omega, by omega⟩
  have hC := itoa_size x.src ⟨by omega, by omega⟩
  have hD := itoa_size x.code ⟨by omega, by omega⟩
  clear ha hr hs hco
  generalize str (itoa x.act) = A at *
  generalize str (itoa x.region) = B at *
  have f1 : Few (A.size + 8) := few (by omega)
  have f2 : Few (A.size + 8 + B.size) := few (by omega)
  have f3 : Few (A.size + 8 + B.size + 1) := few (by omega)
  have f4 : Few (A.size + 8 + B.size + 1 + x.device.size) := few (by omega)
  have t1 : (x.kind == 1) = false := by simp [hk]
  have t2 : (x.kind == 2) = false := by simp [hk]
  have t3 : (x.kind == 3) = false := by simp [hk]
  have t4 : (x.kind == 4) = true := by simp [hk]
  clear hk
  go_enter Tryd.func9, Tryd.ntmps9
  go_wp2_with (go_at_call 20; refine (nA _).mono ?_; rintro e w1 ⟨rfl, hb1⟩; obtain ⟨hbc, _⟩ := bcell hb1; have hbz := hb1.size)
  have hbz' : w.heap.size < w1.heap.size := by simpa [Nat.succ_le_iff] using hbz
  go_region_held3 (fun w' => w'.cell? ⟨w.heap.size, 2, none⟩ = some (.int .i64 x.region) ∧ w'.cell? ⟨w.heap.size, 5, none⟩ = some (.string x.device) ∧ w'.cell? ⟨w.heap.size, 4, none⟩ = some (.int .i64 x.code))
    (first | exact keep3 hb2 hbz' (by assumption) | go_keep)
    (first | (go_at_call 20; refine (nB _).mono ?_; rintro e w2 ⟨rfl, hb2⟩))
  go_wp2
  go_ret
  exact ⟨rfl, ((((Below.refl w.heap.size w).alloc (Nat.le_refl _) _).trans (hb1.mono (by simp))).drew.trans (hb2.mono (by first | omega | (simp; omega))))⟩

set_option maxRecDepth 100000 in
theorem refline_5 (x : Hp) (w : World) (hk1 : x.kind ≠ 1) (hk2 : x.kind ≠ 2) (hk3 : x.kind ≠ 3) (hk4 : x.kind ≠ 4) (ha : -9223372036854775808 < x.act ∧ x.act ≤ 9223372036854775807) :
    Calls Tryd.prog 9 #[.agg #[.int .i64 x.kind, .int .i64 x.act, .int .i64 x.region, .int .i64 x.src, .int .i64 x.code, .string x.device]] w
      fun e w' => e = .returned (.string (str (lineL x))) ∧ Below w.heap.size w w' := by
  have hfin : str (lineL x) = str (itoa x.act) ++ (⟨#[32, 63]⟩ : ByteArray) := by
    rw [lineL, if_neg hk1, if_neg hk2, if_neg hk3, if_neg hk4, ← str_append]; rfl
  rw [hfin]
  clear hfin
  have nA := fun W => num_any x.act W ha.1 ha.2
  have hA := itoa_size x.act ⟨by omega, by omega⟩
  clear ha
  generalize str (itoa x.act) = A at *
  have f1 : Few (A.size + 2) := few (by omega)
  have t1 : (x.kind == 1) = false := by simp [hk1]
  have t2 : (x.kind == 2) = false := by simp [hk2]
  have t3 : (x.kind == 3) = false := by simp [hk3]
  have t4 : (x.kind == 4) = false := by simp [hk4]
  clear hk1 hk2 hk3 hk4
  go_enter Tryd.func9, Tryd.ntmps9
  go_wp2_with (go_at_call 20; refine (nA _).mono ?_; rintro e w1 ⟨rfl, hb1⟩; obtain ⟨hbc, _⟩ := bcell hb1; have hbz := hb1.size)
  have hbz' : w.heap.size < w1.heap.size := by simpa [Nat.succ_le_iff] using hbz
  go_wp2
  go_ret
  exact ⟨rfl, ((Below.refl w.heap.size w).alloc (Nat.le_refl _) _).trans (hb1.mono (by simp))⟩

/-- ref.Line, of a hop of small numbers. -/
theorem refline_any (x : Hp) (w : World) (h : x.Ok) :
    Calls Tryd.prog 9 #[.agg #[.int .i64 x.kind, .int .i64 x.act, .int .i64 x.region, .int .i64 x.src, .int .i64 x.code, .string x.device]] w
      fun e w' => e = .returned (.string (str (lineL x))) ∧ Below w.heap.size w w' := by
  obtain ⟨_, h2, h3, h4, h5, h6⟩ := h
  by_cases k1 : x.kind = 1
  · exact refline_1 x w k1 ⟨by omega, by omega⟩ ⟨by omega, by omega⟩ ⟨by omega, by omega⟩ ⟨by omega, by omega⟩ h6
  by_cases k2 : x.kind = 2
  · exact refline_2 x w k2 ⟨by omega, by omega⟩ ⟨by omega, by omega⟩ ⟨by omega, by omega⟩ ⟨by omega, by omega⟩ h6
  by_cases k3 : x.kind = 3
  · exact refline_3 x w k3 ⟨by omega, by omega⟩ ⟨by omega, by omega⟩ ⟨by omega, by omega⟩ ⟨by omega, by omega⟩ h6
  by_cases k4 : x.kind = 4
  · exact refline_4 x w k4 ⟨by omega, by omega⟩ ⟨by omega, by omega⟩ ⟨by omega, by omega⟩ ⟨by omega, by omega⟩ h6
  exact refline_5 x w k1 k2 k3 k4 ⟨by omega, by omega⟩
end Go.Proofs.YthjoohdmckfihaaDoor
