import Derived.Test.YthjoohdmckfihaaDoorL3
import Derived.WalkSmall
import Derived.Deep.DeepFit
namespace Go.Proofs.YthjoohdmckfihaaDoor
open Go.RowKit Go.Lib Go.Sort

theorem below_grow (w : World) (k : Nat) (os : Array Obj) : Below w.heap.size w (grow (w.drewN k) os) :=
  ⟨rfl, rfl, rfl, by simp [grow, World.drewN], fun j hj => by simp only [grow, World.drewN]; rw [Array.getElem?_append_left hj]⟩

/-- The library's table of powers of ten lies in the world. -/
def Pow (w : World) : Prop := Lib.TabIs Tryd.prog w "internal/strconv.uint64pow10" .u64 Lib.pow10Tab
theorem var_lt {P : Program} {w : World} {n : String} {cs : Array Value} (h : w.var? P n = some cs) : ∃ g, P.globalNamed n = some g ∧ g < w.heap.size := by
  unfold World.var? at h
  cases hg : P.globalNamed n with
  | none => rw [hg] at h; simp at h
  | some g =>
    refine ⟨g, rfl, ?_⟩
    rw [hg] at h
    simp only [Option.bind_some] at h
    cases he : w.heap[g]? with
    | none => rw [he] at h; simp at h
    | some o => exact (Array.getElem?_eq_some_iff.1 he).1
theorem Pow.below {w W : World} (h : Pow w) (hb : Below w.heap.size w W) : Pow W := by
  obtain ⟨g, hg, hl⟩ := var_lt (show w.var? Tryd.prog _ = some _ from h)
  exact var?_below hb hg hl h

/-- strconv.Itoa. -/
theorem itoa_any (n : Int) {w W : World} (hp : Pow w) (hb : Below w.heap.size w W) (h0 : -9223372036854775808 ≤ n) (h1 : n ≤ 9223372036854775807) :
    Calls Tryd.prog 31 #[.int .i64 n] W fun e w' => e = .returned (.string (str (itoa n))) ∧ Below W.heap.size W w' :=
  (Any.strconv_Itoa Tryd.laysM171 n h0 h1 W (hp.below hb)).mono fun _ _ ⟨he, k, os, hw⟩ => ⟨he, hw ▸ below_grow W k os⟩






theorem empty_end (a : ByteArray) : a ++ (⟨#[]⟩ : ByteArray) = a := by
  have := str_append a.data.toList []
  rw [str_toList, List.append_nil, str_toList] at this
  exact this
theorem not_empty (D : ByteArray) : ((⟨#[32]⟩ : ByteArray) ++ D).toList.isEmpty = false := by
  rw [ByteArray.toList_eq, ByteArray.data_append]; simp
theorem s_pub : str wPub = (⟨#[32]⟩ : ByteArray) ++ (⟨#[112, 117, 98, 108, 105, 115, 104, 101, 100, 32]⟩ : ByteArray) := by simp only [str_append, wPub, show (⟨#[32]⟩ : ByteArray) = str [32] from rfl, show (⟨#[112, 117, 98, 108, 105, 115, 104, 101, 100, 32]⟩ : ByteArray) = str [112, 117, 98, 108, 105, 115, 104, 101, 100, 32] from rfl]; rfl
theorem s_came : str wCame = (⟨#[32]⟩ : ByteArray) ++ (⟨#[99, 97, 109, 101, 32]⟩ : ByteArray) := by simp only [str_append, wCame, show (⟨#[32]⟩ : ByteArray) = str [32] from rfl, show (⟨#[99, 97, 109, 101, 32]⟩ : ByteArray) = str [99, 97, 109, 101, 32] from rfl]; rfl
theorem s_ref : str wRef = (⟨#[32]⟩ : ByteArray) ++ (⟨#[114, 101, 102, 117, 115, 101, 100, 32]⟩ : ByteArray) := by simp only [str_append, wRef, show (⟨#[32]⟩ : ByteArray) = str [32] from rfl, show (⟨#[114, 101, 102, 117, 115, 101, 100, 32]⟩ : ByteArray) = str [114, 101, 102, 117, 115, 101, 100, 32] from rfl]; rfl
theorem s_pol : str wPol = (⟨#[32]⟩ : ByteArray) ++ (⟨#[112, 111, 108, 108, 101, 100, 32]⟩ : ByteArray) := by simp only [str_append, wPol, show (⟨#[32]⟩ : ByteArray) = str [32] from rfl, show (⟨#[112, 111, 108, 108, 101, 100, 32]⟩ : ByteArray) = str [112, 111, 108, 108, 101, 100, 32] from rfl]; rfl
theorem s_q : str [32, 63] = (⟨#[32]⟩ : ByteArray) ++ (⟨#[63]⟩ : ByteArray) := by simp only [str_append, show (⟨#[32]⟩ : ByteArray) = str [32] from rfl, show (⟨#[63]⟩ : ByteArray) = str [63] from rfl]; rfl

set_option maxRecDepth 100000 in
theorem line_1 (x : Hp) (w : World) (hP : Pow w) (hk : x.kind = 1) (ha : -9223372036854775808 ≤ x.act ∧ x.act ≤ 9223372036854775807) (hr : -9223372036854775808 ≤ x.region ∧ x.region ≤ 9223372036854775807)
    (hs : -9223372036854775808 ≤ x.src ∧ x.src ≤ 9223372036854775807) (hco : -9223372036854775808 ≤ x.code ∧ x.code ≤ 9223372036854775807) (_hdv : x.device.size ≤ 300) :
    Calls Tryd.prog 19 #[.agg #[.int .i64 x.kind, .int .i64 x.act, .int .i64 x.region, .int .i64 x.src, .int .i64 x.code, .string x.device]] w
      fun e w' => e = .returned (.string (str (lineL x))) ∧ Below w.heap.size w w' := by
  have hfin : str (lineL x) = str (itoa x.act) ++ (⟨#[32]⟩ : ByteArray) ++ (⟨#[112, 117, 98, 108, 105, 115, 104, 101, 100, 32]⟩ : ByteArray) ++ str (itoa x.region) := by
    rw [lineL, if_pos hk, ← str_append, ← str_append, s_pub]; simp only [ByteArray.append_assoc]
  rw [hfin]
  clear hfin
  have nA := fun W hb => itoa_any x.act (W := W) hP hb ha.1 ha.2
  have nB := fun W hb => itoa_any x.region (W := W) hP hb hr.1 hr.2
  have nC := fun W hb => itoa_any x.src (W := W) hP hb hs.1 hs.2
  have nD := fun W hb => itoa_any x.code (W := W) hP hb hco.1 hco.2
  have hA := itoa_size x.act ha
  have hB := itoa_size x.region hr
  have hC := itoa_size x.src hs
  have hD := itoa_size x.code hco
  clear ha hr hs hco hP
  generalize str (itoa x.act) = A at *
  generalize str (itoa x.region) = B at *
  have f1 : Few (A.size + 1) := few (by omega)
  have f2 : Few (A.size + 1 + 10) := few (by omega)
  have f3 : Few (A.size + 1 + 10 + B.size) := few (by omega)
  have t1 : (x.kind == 1) = true := by simp [hk]
  clear hk
  have hb0 := (Below.refl w.heap.size w).alloc (Nat.le_refl _) (.cells #[.int .i64 x.kind, .int .i64 x.act, .int .i64 x.region, .int .i64 x.src, .int .i64 x.code, .string x.device] 31)
  have tokA : True := trivial
  go_enter Tryd.func19, Tryd.ntmps19
  go_wp2_with (first | (go_at_call 31; have _t := tokA; refine (nA _ hb0).mono ?_; rintro e w1 ⟨rfl, hb1⟩; obtain ⟨hbc, _⟩ := bcell hb1; have hbz : w.heap.size < w1.heap.size := Nat.lt_of_lt_of_le (by simp) hb1.size; have hw1 := hb0.trans (hb1.mono hb0.size); clear tokA) | (go_at_call 31; refine (nB _ hw1).mono ?_; rintro e w2 ⟨rfl, hb2⟩))
  go_ret
  exact ⟨rfl, hw1.trans (hb2.mono hw1.size)⟩

set_option maxRecDepth 100000 in
theorem line_4 (x : Hp) (w : World) (hP : Pow w) (hk : x.kind = 4) (ha : -9223372036854775808 ≤ x.act ∧ x.act ≤ 9223372036854775807) (hr : -9223372036854775808 ≤ x.region ∧ x.region ≤ 9223372036854775807)
    (hs : -9223372036854775808 ≤ x.src ∧ x.src ≤ 9223372036854775807) (hco : -9223372036854775808 ≤ x.code ∧ x.code ≤ 9223372036854775807) (_hdv : x.device.size ≤ 300) :
    Calls Tryd.prog 19 #[.agg #[.int .i64 x.kind, .int .i64 x.act, .int .i64 x.region, .int .i64 x.src, .int .i64 x.code, .string x.device]] w
      fun e w' => e = .returned (.string (str (lineL x))) ∧ Below w.heap.size w w' := by
  have hfin : str (lineL x) = str (itoa x.act) ++ (⟨#[32]⟩ : ByteArray) ++ (⟨#[112, 111, 108, 108, 101, 100, 32]⟩ : ByteArray) ++ str (itoa x.region) ++ (⟨#[32]⟩ : ByteArray) ++ x.device := by
    rw [lineL, if_neg (by omega), if_neg (by omega), if_neg (by omega), if_pos hk, ← str_append, ← str_append, ← str_append, ← str_append, s_pol, str_toList]; simp only [ByteArray.append_assoc]; rfl
  rw [hfin]
  clear hfin
  have nA := fun W hb => itoa_any x.act (W := W) hP hb ha.1 ha.2
  have nB := fun W hb => itoa_any x.region (W := W) hP hb hr.1 hr.2
  have nC := fun W hb => itoa_any x.src (W := W) hP hb hs.1 hs.2
  have nD := fun W hb => itoa_any x.code (W := W) hP hb hco.1 hco.2
  have hA := itoa_size x.act ha
  have hB := itoa_size x.region hr
  have hC := itoa_size x.src hs
  have hD := itoa_size x.code hco
  clear ha hr hs hco hP
  generalize str (itoa x.act) = A at *
  generalize str (itoa x.region) = B at *
  have f1 : Few (A.size + 1) := few (by omega)
  have f2 : Few (A.size + 1 + 7) := few (by omega)
  have f3 : Few (A.size + 1 + 7 + B.size) := few (by omega)
  have f4 : Few (A.size + 1 + 7 + B.size + 1) := few (by omega)
  have f5 : Few (A.size + 1 + 7 + B.size + 1 + x.device.size) := few (by omega)
  have t1 : (x.kind == 1) = false := by simp [hk]
  have t2 : (x.kind == 2) = false := by simp [hk]
  have t3 : (x.kind == 3) = false := by simp [hk]
  have t4 : (x.kind == 4) = true := by simp [hk]
  clear hk
  have hb0 := (Below.refl w.heap.size w).alloc (Nat.le_refl _) (.cells #[.int .i64 x.kind, .int .i64 x.act, .int .i64 x.region, .int .i64 x.src, .int .i64 x.code, .string x.device] 31)
  have tokA : True := trivial
  go_enter Tryd.func19, Tryd.ntmps19
  go_wp2_with (go_at_call 31; have _t := tokA; refine (nA _ hb0).mono ?_; rintro e w1 ⟨rfl, hb1⟩; obtain ⟨hbc, _⟩ := bcell hb1; have hbz : w.heap.size < w1.heap.size := Nat.lt_of_lt_of_le (by simp) hb1.size; have hw1 := hb0.trans (hb1.mono hb0.size); clear tokA)
  go_region_held3 (fun w' => w'.cell? ⟨w.heap.size, 2, none⟩ = some (.int .i64 x.region) ∧ w'.cell? ⟨w.heap.size, 5, none⟩ = some (.string x.device) ∧ w'.cell? ⟨w.heap.size, 4, none⟩ = some (.int .i64 x.code))
    (first | exact keep3 hb2 hbz (by assumption) | go_keep)
    (first | (go_at_call 31; refine (nB _ hw1.drew).mono ?_; rintro e w2 ⟨rfl, hb2⟩))
  go_wp2
  go_ret
  exact ⟨rfl, hw1.drew.trans (hb2.mono hw1.size)⟩

set_option maxRecDepth 100000 in
theorem line_2 (x : Hp) (w : World) (hP : Pow w) (hk : x.kind = 2) (ha : -9223372036854775808 ≤ x.act ∧ x.act ≤ 9223372036854775807) (hr : -9223372036854775808 ≤ x.region ∧ x.region ≤ 9223372036854775807)
    (hs : -9223372036854775808 ≤ x.src ∧ x.src ≤ 9223372036854775807) (hco : -9223372036854775808 ≤ x.code ∧ x.code ≤ 9223372036854775807) (_hdv : x.device.size ≤ 300) :
    Calls Tryd.prog 19 #[.agg #[.int .i64 x.kind, .int .i64 x.act, .int .i64 x.region, .int .i64 x.src, .int .i64 x.code, .string x.device]] w
      fun e w' => e = .returned (.string (str (lineL x))) ∧ Below w.heap.size w w' := by
  have hfin : str (lineL x) = str (itoa x.act) ++ (⟨#[32]⟩ : ByteArray) ++ (⟨#[99, 97, 109, 101, 32]⟩ : ByteArray) ++ str (itoa x.region) ++ (⟨#[32]⟩ : ByteArray) ++ str (itoa x.src) := by
    rw [lineL, if_neg (by omega), if_pos hk, ← str_append, ← str_append, ← str_append, ← str_append, s_came]; simp only [ByteArray.append_assoc]; rfl
  rw [hfin]
  clear hfin
  have nA := fun W hb => itoa_any x.act (W := W) hP hb ha.1 ha.2
  have nB := fun W hb => itoa_any x.region (W := W) hP hb hr.1 hr.2
  have nC := fun W hb => itoa_any x.src (W := W) hP hb hs.1 hs.2
  have nD := fun W hb => itoa_any x.code (W := W) hP hb hco.1 hco.2
  have hA := itoa_size x.act ha
  have hB := itoa_size x.region hr
  have hC := itoa_size x.src hs
  have hD := itoa_size x.code hco
  clear ha hr hs hco hP
  generalize str (itoa x.act) = A at *
  generalize str (itoa x.region) = B at *
  generalize str (itoa x.src) = C at *
  have f1 : Few (A.size + 1) := few (by omega)
  have f2 : Few (A.size + 1 + 5) := few (by omega)
  have f3 : Few (A.size + 1 + 5 + B.size) := few (by omega)
  have f4 : Few (A.size + 1 + 5 + B.size + 1) := few (by omega)
  have f5 : Few (A.size + 1 + 5 + B.size + 1 + C.size) := few (by omega)
  have t1 : (x.kind == 1) = false := by simp [hk]
  have t2 : (x.kind == 2) = true := by simp [hk]
  have t3 : (x.kind == 3) = false := by simp [hk]
  have t4 : (x.kind == 4) = false := by simp [hk]
  clear hk
  have hb0 := (Below.refl w.heap.size w).alloc (Nat.le_refl _) (.cells #[.int .i64 x.kind, .int .i64 x.act, .int .i64 x.region, .int .i64 x.src, .int .i64 x.code, .string x.device] 31)
  have tokA : True := trivial
  go_enter Tryd.func19, Tryd.ntmps19
  have tokB : True := trivial
  go_wp2_with (go_at_call 31; have _t := tokA; refine (nA _ hb0).mono ?_; rintro e w1 ⟨rfl, hb1⟩; obtain ⟨hbc, _⟩ := bcell hb1; have hbz : w.heap.size < w1.heap.size := Nat.lt_of_lt_of_le (by simp) hb1.size; have hw1 := hb0.trans (hb1.mono hb0.size); clear tokA)
  go_region_held3 (fun w' => w'.cell? ⟨w.heap.size, 2, none⟩ = some (.int .i64 x.region) ∧ w'.cell? ⟨w.heap.size, 3, none⟩ = some (.int .i64 x.src) ∧ w'.cell? ⟨w.heap.size, 4, none⟩ = some (.int .i64 x.code))
    (first | exact keep3 hb3 hbz2 (by assumption) | exact keep3 hb2 hbz (by assumption) | go_keep)
    (first | (go_at_call 31; have _t := tokB; refine (nB _ hw1.drew).mono ?_; rintro e w2 ⟨rfl, hb2⟩; have hbz2 : w.heap.size < w2.heap.size := Nat.lt_of_lt_of_le hbz hb2.size; have hw2 := hw1.drew.trans (hb2.mono hw1.size); clear tokB) | (go_at_call 31; refine (nC _ hw2).mono ?_; rintro e w3 ⟨rfl, hb3⟩))
  go_wp2
  go_ret
  exact ⟨congrArg (fun s => Ending.returned (.string s)) (empty_end _), hw2.trans (hb3.mono hw2.size)⟩

set_option maxRecDepth 100000 in
theorem line_3 (x : Hp) (w : World) (hP : Pow w) (hk : x.kind = 3) (ha : -9223372036854775808 ≤ x.act ∧ x.act ≤ 9223372036854775807) (hr : -9223372036854775808 ≤ x.region ∧ x.region ≤ 9223372036854775807)
    (hs : -9223372036854775808 ≤ x.src ∧ x.src ≤ 9223372036854775807) (hco : -9223372036854775808 ≤ x.code ∧ x.code ≤ 9223372036854775807) (_hdv : x.device.size ≤ 300) :
    Calls Tryd.prog 19 #[.agg #[.int .i64 x.kind, .int .i64 x.act, .int .i64 x.region, .int .i64 x.src, .int .i64 x.code, .string x.device]] w
      fun e w' => e = .returned (.string (str (lineL x))) ∧ Below w.heap.size w w' := by
  have hfin : str (lineL x) = str (itoa x.act) ++ (⟨#[32]⟩ : ByteArray) ++ (⟨#[114, 101, 102, 117, 115, 101, 100, 32]⟩ : ByteArray) ++ str (itoa x.region) ++ (⟨#[32]⟩ : ByteArray) ++ str (itoa x.src) ++ ((⟨#[32]⟩ : ByteArray) ++ str (itoa x.code)) := by
    rw [lineL, if_neg (by omega), if_neg (by omega), if_pos hk, ← str_append, ← str_append, ← str_append, ← str_append, ← str_append, ← str_append, s_ref]; simp only [ByteArray.append_assoc]; rfl
  rw [hfin]
  clear hfin
  have nA := fun W hb => itoa_any x.act (W := W) hP hb ha.1 ha.2
  have nB := fun W hb => itoa_any x.region (W := W) hP hb hr.1 hr.2
  have nC := fun W hb => itoa_any x.src (W := W) hP hb hs.1 hs.2
  have nD := fun W hb => itoa_any x.code (W := W) hP hb hco.1 hco.2
  have hA := itoa_size x.act ha
  have hB := itoa_size x.region hr
  have hC := itoa_size x.src hs
  have hD := itoa_size x.code hco
  clear ha hr hs hco hP
  generalize str (itoa x.act) = A at *
  generalize str (itoa x.region) = B at *
  generalize str (itoa x.src) = C at *
  generalize str (itoa x.code) = D at *
  have f1 : Few (A.size + 1) := few (by omega)
  have f2 : Few (A.size + 1 + 8) := few (by omega)
  have f3 : Few (A.size + 1 + 8 + B.size) := few (by omega)
  have f4 : Few (A.size + 1 + 8 + B.size + 1) := few (by omega)
  have f5 : Few (A.size + 1 + 8 + B.size + 1 + C.size) := few (by omega)
  have f6 : Few (A.size + 1 + 8 + B.size + 1 + C.size + (1 + D.size)) := few (by omega)
  have f7 : Few (1 + D.size) := few (by omega)
  have te := not_empty D
  have t1 : (x.kind == 1) = false := by simp [hk]
  have t2 : (x.kind == 2) = false := by simp [hk]
  have t3 : (x.kind == 3) = true := by simp [hk]
  have t4 : (x.kind == 4) = false := by simp [hk]
  clear hk
  have hb0 := (Below.refl w.heap.size w).alloc (Nat.le_refl _) (.cells #[.int .i64 x.kind, .int .i64 x.act, .int .i64 x.region, .int .i64 x.src, .int .i64 x.code, .string x.device] 31)
  have tokA : True := trivial
  go_enter Tryd.func19, Tryd.ntmps19
  have tokB : True := trivial
  go_wp2_with (first | (go_at_call 31; have _t := tokA; refine (nA _ hb0).mono ?_; rintro e w1 ⟨rfl, hb1⟩; obtain ⟨hbc, _⟩ := bcell hb1; have hbz : w.heap.size < w1.heap.size := Nat.lt_of_lt_of_le (by simp) hb1.size; have hw1 := hb0.trans (hb1.mono hb0.size); clear tokA) | (go_at_call 31; refine (nD _ hw1).mono ?_; rintro e w4 ⟨rfl, hb4⟩; obtain ⟨hbc4, _⟩ := bcell hb4; have hbz4 : w.heap.size < w4.heap.size := Nat.lt_of_lt_of_le hbz hb4.size; have hw4 := hw1.trans (hb4.mono hw1.size)))
  go_region_held3 (fun w' => w'.cell? ⟨w.heap.size, 2, none⟩ = some (.int .i64 x.region) ∧ w'.cell? ⟨w.heap.size, 3, none⟩ = some (.int .i64 x.src) ∧ w'.cell? ⟨w.heap.size, 4, none⟩ = some (.int .i64 x.code))
    (first | exact keep3 hb3 hbz2 (by assumption) | exact keep3 hb2 hbz4 (by assumption) | go_keep)
    (first | (go_at_call 31; have _t := tokB; refine (nB _ hw4.drew).mono ?_; rintro e w2 ⟨rfl, hb2⟩; have hbz2 : w.heap.size < w2.heap.size := Nat.lt_of_lt_of_le hbz4 hb2.size; have hw2 := hw4.drew.trans (hb2.mono hw4.size); clear tokB) | (go_at_call 31; refine (nC _ hw2).mono ?_; rintro e w3 ⟨rfl, hb3⟩))
  go_wp2
  go_ret
  exact ⟨rfl, hw2.trans (hb3.mono hw2.size)⟩

set_option maxRecDepth 100000 in
theorem line_5 (x : Hp) (w : World) (hP : Pow w) (hk : x.kind ≠ 1 ∧ x.kind ≠ 2 ∧ x.kind ≠ 3 ∧ x.kind ≠ 4) (ha : -9223372036854775808 ≤ x.act ∧ x.act ≤ 9223372036854775807) (hr : -9223372036854775808 ≤ x.region ∧ x.region ≤ 9223372036854775807)
    (hs : -9223372036854775808 ≤ x.src ∧ x.src ≤ 9223372036854775807) (hco : -9223372036854775808 ≤ x.code ∧ x.code ≤ 9223372036854775807) (_hdv : x.device.size ≤ 300) :
    Calls Tryd.prog 19 #[.agg #[.int .i64 x.kind, .int .i64 x.act, .int .i64 x.region, .int .i64 x.src, .int .i64 x.code, .string x.device]] w
      fun e w' => e = .returned (.string (str (lineL x))) ∧ Below w.heap.size w w' := by
  have hfin : str (lineL x) = str (itoa x.act) ++ (⟨#[32]⟩ : ByteArray) ++ (⟨#[63]⟩ : ByteArray) := by
    rw [lineL, if_neg hk.1, if_neg hk.2.1, if_neg hk.2.2.1, if_neg hk.2.2.2, ← str_append, s_q, ByteArray.append_assoc]
  rw [hfin]
  clear hfin
  have nA := fun W hb => itoa_any x.act (W := W) hP hb ha.1 ha.2
  have nB := fun W hb => itoa_any x.region (W := W) hP hb hr.1 hr.2
  have nC := fun W hb => itoa_any x.src (W := W) hP hb hs.1 hs.2
  have nD := fun W hb => itoa_any x.code (W := W) hP hb hco.1 hco.2
  have hA := itoa_size x.act ha
  have hB := itoa_size x.region hr
  have hC := itoa_size x.src hs
  have hD := itoa_size x.code hco
  clear ha hr hs hco hP
  generalize str (itoa x.act) = A at *
  have f1 : Few (A.size + 1) := few (by omega)
  have f2 : Few (A.size + 1 + 1) := few (by omega)
  have t1 : (x.kind == 1) = false := by simp [hk.1]
  have t2 : (x.kind == 2) = false := by simp [hk.2.1]
  have t3 : (x.kind == 3) = false := by simp [hk.2.2.1]
  have t4 : (x.kind == 4) = false := by simp [hk.2.2.2]
  clear hk
  have hb0 := (Below.refl w.heap.size w).alloc (Nat.le_refl _) (.cells #[.int .i64 x.kind, .int .i64 x.act, .int .i64 x.region, .int .i64 x.src, .int .i64 x.code, .string x.device] 31)
  have tokA : True := trivial
  go_enter Tryd.func19, Tryd.ntmps19
  go_wp2_with (go_at_call 31; have _t := tokA; refine (nA _ hb0).mono ?_; rintro e w1 ⟨rfl, hb1⟩; obtain ⟨hbc, _⟩ := bcell hb1; have hbz : w.heap.size < w1.heap.size := Nat.lt_of_lt_of_le (by simp) hb1.size; have hw1 := hb0.trans (hb1.mono hb0.size); clear tokA)
  go_ret
  exact ⟨rfl, hw1⟩

/-- trail's line, of a hop of small numbers. -/
theorem line_any (x : Hp) {w W : World} (hP : Pow w) (hb : Below w.heap.size w W) (h : x.Ok) :
    Calls Tryd.prog 19 #[.agg #[.int .i64 x.kind, .int .i64 x.act, .int .i64 x.region, .int .i64 x.src, .int .i64 x.code, .string x.device]] W
      fun e w' => e = .returned (.string (str (lineL x))) ∧ Below W.heap.size W w' := by
  obtain ⟨_, h2, h3, h4, h5, h6⟩ := h
  by_cases k1 : x.kind = 1
  · exact line_1 x W (hP.below hb) k1 ⟨by omega, by omega⟩ ⟨by omega, by omega⟩ ⟨by omega, by omega⟩ ⟨by omega, by omega⟩ h6
  by_cases k2 : x.kind = 2
  · exact line_2 x W (hP.below hb) k2 ⟨by omega, by omega⟩ ⟨by omega, by omega⟩ ⟨by omega, by omega⟩ ⟨by omega, by omega⟩ h6
  by_cases k3 : x.kind = 3
  · exact line_3 x W (hP.below hb) k3 ⟨by omega, by omega⟩ ⟨by omega, by omega⟩ ⟨by omega, by omega⟩ ⟨by omega, by omega⟩ h6
  by_cases k4 : x.kind = 4
  · exact line_4 x W (hP.below hb) k4 ⟨by omega, by omega⟩ ⟨by omega, by omega⟩ ⟨by omega, by omega⟩ ⟨by omega, by omega⟩ h6
  exact line_5 x W (hP.below hb) ⟨k1, k2, k3, k4⟩ ⟨by omega, by omega⟩ ⟨by omega, by omega⟩ ⟨by omega, by omega⟩ ⟨by omega, by omega⟩ h6
end Go.Proofs.YthjoohdmckfihaaDoor
