/-
  The memory under test: copies of slices, Load, Events, Pending, Image, Seen.
-/
import Derived.Test.YtlolaieolgmdnaaDoorMA

namespace Go.Proofs.YtlolaieolgmdnaaDoor

open Go.RowKit
set_option linter.unusedVariables false
set_option linter.unusedSimpArgs false
set_option maxRecDepth 10000

section

variable {c : Cx} {Γ : List HProp} {w : World} {m : Nat} {M : MemS} {lv ev : Value} {ps : List Value} {mb ck : Nat} {es : Array MapEntry}

theorem bn_app0 {K : Value → World → Prop} {t e sz by_ ty c1 : Nat} {a0 ad : Option Addr} [hs : Slc Tryd.prog t e sz by_] (h : K (.slice a0 0 0) w) : Bn Tryd.prog (Builtin.append_ #[t, t] ty #[.slice a0 0 0, .slice ad 0 c1]) w K := by
  obtain ⟨z, hsl, hzl⟩ := hs.is
  obtain ⟨inf, zv, hu, hi, hsize, hbytes, hz, hzc⟩ := sliceT_spec hsl
  refine ⟨.slice a0 0 0, w, ?_, h⟩
  cases ad with
  | none => cases a0 <;> simp [Builtin.append_, run_underlying hu, sizeOf, typeInfo, hi, Builtin.lenOf, Builtin.firstCells, storeCells]
  | some a => cases a0 <;> simp [Builtin.append_, run_underlying hu, sizeOf, typeInfo, hi, Builtin.lenOf, Builtin.firstCells, loadCells, loadCellsFrom, storeCells]

theorem bn_lit0 {K : Value → World → Prop} {t e n b0 : Nat} [hs : Slc Tryd.prog t e n b0] (H : Sat c Γ w) (h : ∀ a w', Sat c Γ w' → K (.slice a 0 0) w') : Bn Tryd.prog (Instr.buildSlice t 0 #[]) w K := by
  obtain ⟨z, hsl, hzl⟩ := hs.is
  obtain ⟨inf, zv, hu, hi, hsize, hbytes, hz, hzc⟩ := sliceT_spec hsl
  have H1 := H.new (.cells #[] e)
  refine ⟨.slice (some ⟨w.heap.size, 0, none⟩) 0 0, { w with heap := w.heap.push (.cells #[] e) }, ?_, h _ _ H1.tail⟩
  simp [Instr.buildSlice, run_underlying hu, sizeOf, typeInfo, hi, Instr.fill]
  simp [newRow]
  first | rfl | (congr 2; done) | (congr 2; simp)

theorem cloneSt_sp {v : Value} {n : Nat} {xs : List Value} (hv : SlR c v n xs) (hl : xs.length = n * 2) (h1 : ∀ u ∈ xs, u.oneCell' = true) (hn : n ≤ 1000000) (H : Sat c Γ w) :
    Calls Tryd.prog 35 #[v] w (Rt fun u w' => (n = 0 → ∃ a, u = .slice a 0 0) ∧ Sat c (ownS 80 2 u n xs :: Γ) w') := by
  obtain ⟨a, cap, rfl, hle, hnil, -⟩ := hv H
  refine slices_Clone_api_Store_api_Store_ok ?_
  unfold slices_Clone_api_Store_api_Store_w
  refine pu_slNil ?_
  cases a with
  | none =>
    have h0 := hnil rfl
    subst h0
    have : xs = [] := List.eq_nil_of_length_eq_zero (by omega)
    subst this
    exact ⟨fun _ => ⟨none, rfl⟩, H.nilS none⟩
  | some a =>
    by_cases h0 : n = 0
    · subst h0
      have : xs = [] := List.eq_nil_of_length_eq_zero (by omega)
      subst this
      refine bn_lit0 H fun a2 w H => ?_
      refine bn_app0 ?_
      exact ⟨fun _ => ⟨a2, rfl⟩, H.nilS a2⟩
    · refine bn_buildSlice (cs := []) (fun z hz => ⟨by omega, by simp [Instr.fill]⟩) (by simp) H fun v w H => ?_
      refine bn_appendR H Has.n0 (hv H) hl h1 (by omega) (by unfold maxLen; omega) (by omega) fun v' w H => ?_
      exact ⟨fun h => absurd h h0, by simpa using H⟩

theorem cloneEv_sp {v : Value} {n : Nat} {xs : List Value} (hv : SlR c v n xs) (hl : xs.length = n * 12) (h1 : ∀ u ∈ xs, u.oneCell' = true) (hn : n ≤ 1000000) (H : Sat c Γ w) :
    Calls Tryd.prog 34 #[v] w (Rt fun u w' => Sat c (ownS 77 12 u n xs :: Γ) w') := by
  obtain ⟨a, cap, rfl, hle, hnil, -⟩ := hv H
  refine slices_Clone_api_Event_api_Event_ok ?_
  unfold slices_Clone_api_Event_api_Event_w
  refine pu_slNil ?_
  cases a with
  | none =>
    have h0 := hnil rfl
    subst h0
    have : xs = [] := List.eq_nil_of_length_eq_zero (by omega)
    subst this
    exact H.nilS none
  | some a =>
    refine bn_buildSlice (cs := []) (fun z hz => ⟨by omega, by simp [Instr.fill]⟩) (by simp) H fun v w H => ?_
    refine bn_appendR H Has.n0 (hv H) hl h1 (by omega) (by unfold maxLen; omega) (by omega) fun v' w H => ?_
    simpa using H

theorem cloneLn_sp {v : Value} {n : Nat} {xs : List Value} (hv : SlR c v n xs) (hl : xs.length = n * 11) (h1 : ∀ u ∈ xs, u.oneCell' = true) (hn : n ≤ 1000000) (H : Sat c Γ w) :
    Calls Tryd.prog 33 #[v] w (Rt fun u w' => Sat c (ownS 57 11 u n xs :: Γ) w') := by
  obtain ⟨a, cap, rfl, hle, hnil, -⟩ := hv H
  refine slices_Clone_memory_line_memory_line_ok ?_
  unfold slices_Clone_memory_line_memory_line_w
  refine pu_slNil ?_
  cases a with
  | none =>
    have h0 := hnil rfl
    subst h0
    have : xs = [] := List.eq_nil_of_length_eq_zero (by omega)
    subst this
    exact H.nilS none
  | some a =>
    refine bn_buildSlice (cs := []) (fun z hz => ⟨by omega, by simp [Instr.fill]⟩) (by simp) H fun v w H => ?_
    refine bn_appendR H Has.n0 (hv H) hl h1 (by omega) (by unfold maxLen; omega) (by omega) fun v' w H => ?_
    simpa using H

theorem tdiv_nat (n : Nat) : (n : Int).tdiv 8 = ((n / 8 : Nat) : Int) := by
  rw [Int.tdiv_eq_ediv_of_nonneg (by omega)]; omega
theorem tmod_nat (n : Nat) : (n : Int).tmod 8 = ((n % 8 : Nat) : Int) := by
  rw [Int.tmod_eq_emod_of_nonneg (by omega)]; omega

/-- What a word reads as. -/
def loadM (L : List LineS) (at' : Int) : Int × Int :=
  if at' < 0 then (0, 40) else
    match L[at'.toNat / 8]? with
    | none => (0, 40)
    | some y => if (showL y.x y.c y.p).2 = 0 then ((showL y.x y.c y.p).1.get (at'.toNat % 8), 0) else (0, 9)

/-- What is asked of a memory's data. -/
structure LineS.ok (y : LineS) : Prop where
  word : ∀ s ∈ y.p, 0 ≤ s.1 ∧ s.1 < 8
  few : y.p.length ≤ 1000000
  m0 : 0 ≤ y.mark
  m1 : y.mark ≤ y.p.length

structure MemS.ok (M : MemS) : Prop where
  lines : M.L.length ≤ 4096
  line : ∀ y ∈ M.L, y.ok
  evs : M.ev.length ≤ 1000000

theorem w8C_get (l : W8) (j : Nat) (hj : j < 8) : (w8C l)[j]? = some (.int .i64 (l.get j)) := by
  rcases lt8 hj with rfl | rfl | rfl | rfl | rfl | rfl | rfl | rfl <;> rfl

theorem Load_sp (at' : Int) (hat : i64 at') (hok : M.ok) (R : MemR c m M lv ps mb es ck ev) (hT : TabC c) (H : Sat c Γ w) :
    Calls Tryd.prog 15 #[.pointer (some ⟨m, 0, none⟩), .int .i64 at'] w (Rt (Yes c Γ (.tuple #[.int .i64 (loadM M.L at').1, .int .i64 (loadM M.L at').2]))) := by
  have h1 := R.top
  refine memory_Memory_Load_ok ?_
  unfold memory_Memory_Load_w
  (with_reducible (repeat (first | refine pu_st ?_ | refine bn_st ?_)))
  refine condD (fun h0 => ?_) (fun h0 => ?_)
  · refine ⟨?_, H⟩
    unfold loadM; rw [if_pos h0]
  obtain ⟨n, rfl⟩ : ∃ n : Nat, at' = n := ⟨at'.toNat, by omega⟩
  refine pu_quo (by omega) (tdiv_i64 hat) ?_
  rw [tdiv_nat]
  refine Cl.of memory_Memory_has_en (has_sp _ R H) ?_
  rintro _ w ⟨rfl, H⟩
  (with_reducible (repeat (first | refine pu_st ?_ | refine bn_st ?_)))
  refine condND (fun hk => ?_) (fun hk => ?_)
  · refine ⟨?_, H⟩
    unfold loadM
    rw [if_neg h0, List.getElem?_eq_none (by omega)]
  · obtain ⟨y, hy⟩ : ∃ y, M.L[n / 8]? = some y := ⟨M.L[n / 8]'(by omega), List.getElem?_eq_getElem _⟩
    obtain ⟨b, o, cap, p, rfl, hle, hp, hpe, hl⟩ := R.line H hy
    have hlt : n / 8 < M.L.length := (List.getElem?_eq_some_iff.1 hy).1
    have hyok := hok.line y (List.mem_of_getElem? hy)
    have hsl : SlR c p y.p.length ((y.p.map stC).flatten) := hpe.slR
    obtain ⟨a1, cap1, rfl, hle1, hn1, -⟩ := hsl H
    (with_reducible (repeat (first | refine pu_st ?_ | refine bn_st ?_)))
    (refine bn_load1 (At.cell h1 H rfl) ?_; (with_reducible (repeat (first | refine pu_st ?_ | refine bn_st ?_))))
    refine pu_quo (by omega) (tdiv_i64 hat) ?_
    rw [tdiv_nat]
    refine pu_indexN hlt ?_
    (with_reducible (repeat (first | refine pu_st ?_ | refine bn_st ?_)))
    (refine bn_load1 (hl.pend H) ?_; (with_reducible (repeat (first | refine pu_st ?_ | refine bn_st ?_))))
    refine Cl.of memory_line_shows_en (shows_sp y.p.length (Nat.le_refl _) hyok.few hyok.word hl hpe hT H) ?_
    rintro _ w ⟨rfl, H⟩
    rw [List.take_length]
    (with_reducible (repeat (first | refine pu_st ?_ | refine bn_st ?_)))
    refine bn_alloc H fun b7 w H => ?_
    refine bn_storeN (vs := w8C (showL y.x y.c y.p).1) H Has.n0 rfl (by simp [w8C]) (w8C_one _) fun w H => ?_
    (with_reducible (repeat (first | refine pu_st ?_ | refine bn_st ?_)))
    refine condND (fun he => ?_) (fun he => ?_)
    · refine ⟨?_, H.tail⟩
      unfold loadM
      rw [if_neg h0]
      simp only [Int.toNat_natCast, hy, he, if_false]
    · refine pu_rem (by omega) ?_
      rw [tmod_nat]
      refine pu_indexA (by omega) (by omega) ?_
      refine bn_load1 (Sat.cell (cs := w8C (showL y.x y.c y.p).1) H Has.n0 (w8C_get _ _ (by omega))) ?_
      refine ⟨?_, H.tail⟩
      unfold loadM
      rw [if_neg h0]
      simp only [Int.toNat_natCast, hy, he, if_true, Nat.zero_add, Nat.mul_one]

/-- A line of an image. -/
def imC (y : LineS) : List Value := w8C y.x ++ [.int .i64 y.c]
theorem imC_len (y : LineS) : (imC y).length = 9 := rfl
theorem imC_one (y : LineS) : ∀ v ∈ imC y, v.oneCell' = true := by simp [imC, w8C, Value.oneCell']

/-- Rows filled one by one. -/
def fillR {α : Type} (enc : α → List Value) (z : List Value) (l : List α) (i : Nat) : List (List Value) := (l.take i).map enc ++ List.replicate (l.length - i) z
theorem fillR_zero {α : Type} (enc : α → List Value) (z : List Value) (l : List α) : fillR enc z l 0 = List.replicate l.length z := by simp [fillR]
theorem fillR_end {α : Type} (enc : α → List Value) (z : List Value) (l : List α) : fillR enc z l l.length = l.map enc := by simp [fillR]
theorem fillR_len {α : Type} (enc : α → List Value) (z : List Value) (l : List α) (i : Nat) (hi : i ≤ l.length) : (fillR enc z l i).length = l.length := by simp [fillR]; omega
theorem fillR_set {α : Type} (enc : α → List Value) (z : List Value) (l : List α) (i : Nat) (x : α) (hx : l[i]? = some x) : (fillR enc z l i).set i (enc x) = fillR enc z l (i + 1) := by
  have hi : i < l.length := (List.getElem?_eq_some_iff.1 hx).1
  have hl : ((l.take i).map enc).length = i := by simp; omega
  unfold fillR
  rw [List.set_append_right _ _ (by omega), hl, Nat.sub_self, take_succ_of hx, List.map_append]
  obtain ⟨d, hd⟩ : ∃ d, l.length - i = d + 1 := ⟨l.length - i - 1, by omega⟩
  have hd' : l.length - (i + 1) = d := by omega
  rw [hd, hd', List.replicate_succ, List.set_cons_zero]
  simp
theorem fillR_rows {α : Type} {enc : α → List Value} {z : List Value} {k : Nat} (hk : ∀ x, (enc x).length = k) (hz : z.length = k) (l : List α) (i : Nat) : ∀ r ∈ fillR enc z l i, r.length = k := by
  intro r hr
  rcases List.mem_append.1 hr with h | h
  · obtain ⟨x, _, rfl⟩ := List.mem_map.1 h; exact hk x
  · rw [List.eq_of_mem_replicate h]; exact hz
theorem rowsF_len {rows : List (List Value)} {k : Nat} (h : ∀ r ∈ rows, r.length = k) : rows.flatten.length = rows.length * k := by
  induction rows with
  | nil => simp
  | cons r rows ih => rw [List.flatten_cons, List.length_append, h r (by simp), ih (fun q hq => h q (by simp [hq])), List.length_cons, Nat.succ_mul, Nat.add_comm]

theorem lnC_im {y : LineS} {p : Value} {j : Nat} {v : Value} (h : (imC y)[j]? = some v) : (lnC (y, p))[j]? = some v := by
  rcases j with _ | _ | _ | _ | _ | _ | _ | _ | _ | j <;> first | exact h | (simp [imC, w8C] at h)
theorem pend_one {y : LineS} {p : Value} (h : At c (pendH (y, p))) (H : Sat c Γ w) : p.oneCell' = true := by
  have hs : SlR c p y.p.length ((y.p.map stC).flatten) := h.slR
  obtain ⟨a, cap, rfl, -⟩ := hs H
  rfl
theorem lnC_one {y : LineS} {p : Value} (h : p.oneCell' = true) : ∀ v ∈ lnC (y, p), v.oneCell' = true := by
  intro v hv
  simp only [lnC, List.mem_cons, List.not_mem_nil, or_false] at hv
  rcases hv with rfl | rfl | rfl | rfl | rfl | rfl | rfl | rfl | rfl | rfl | rfl <;> first | rfl | exact h

theorem LineR.all {b a : Nat} {y : LineS} {p : Value} (h : LineR c b a y p) (H : Sat c Γ w) : cellsAt w b a (lnC (y, p)) := fun j v hj => h H j v hj

/-- What a line shows. -/
def seenW (y : LineS) : W8 := (showL y.x y.c y.p).1
def seenC (y : LineS) : List Value := w8C (seenW y)
theorem seenC_len (y : LineS) : (seenC y).length = 8 := rfl

theorem Seen_sp (hok : M.ok) (R : MemR c m M lv ps mb es ck ev) (hT : TabC c) (H : Sat c Γ w) :
    Calls Tryd.prog 19 #[.pointer (some ⟨m, 0, none⟩)] w (Rt fun u w' => Sat c (ownS 51 8 u M.L.length ((M.L.map seenC).flatten) :: Γ) w') := by
  have h1 := R.top
  have hlines := hok.lines
  refine memory_Memory_Seen_ok ?_
  unfold memory_Memory_Seen_w
  obtain ⟨a, cap, rfl, hle, hnil, -⟩ := R.sl H
  (with_reducible (repeat (first | refine pu_st ?_ | refine bn_st ?_)))
  (refine bn_load1 (At.cell h1 H rfl) ?_; (with_reducible (repeat (first | refine pu_st ?_ | refine bn_st ?_))))
  refine bn_make H (by omega) (by omega) fun b w z hz hzl H => ?_
  (with_reducible (repeat (first | refine pu_st ?_ | refine bn_st ?_)))
  (refine bn_load1 (At.cell h1 H rfl) ?_; (with_reducible (repeat (first | refine pu_st ?_ | refine bn_st ?_))))
  refine ⟨fun v w => ∃ i : Nat, i ≤ M.L.length ∧ v = .int .i64 (i : Int) ∧ Sat c (blk b ((fillR seenC z M.L i).flatten) 51 :: Γ) w, fun v _ => M.L.length - (intOf v).toNat, ⟨0, Nat.zero_le _, rfl, by rw [fillR_zero]; exact H⟩, ?_⟩
  intros
  rename_i w hI
  obtain ⟨i, hi, rfl, H⟩ := hI
  (with_reducible (repeat (first | refine pu_st ?_ | refine bn_st ?_)))
  refine condD (fun hlt => ?_) (fun hlt => ?_)
  · have hlt : i < M.L.length := by omega
    obtain ⟨y, hy⟩ : ∃ y, M.L[i]? = some y := ⟨M.L[i]'(by omega), List.getElem?_eq_getElem _⟩
    obtain ⟨bl, o, cap', p, e, -, hp, hpe, hl⟩ := R.line H hy
    cases e
    have hyok := hok.line y (List.mem_of_getElem? hy)
    have hsl : SlR c p y.p.length ((y.p.map stC).flatten) := hpe.slR
    obtain ⟨a1, cap1, rfl, hle1, hn1, -⟩ := hsl H
    (refine ⟨Sat _ _, Sat _ _, Sat.drew H, fun _ h => h, ?_⟩; (with_reducible (repeat (first | refine pu_st ?_ | refine bn_st ?_))))
    (refine ⟨_, fun w H => run_load1 (At.cell h1 H rfl), ?_⟩; (with_reducible (repeat (first | refine pu_st ?_ | refine bn_st ?_))))
    refine pu_indexN hlt ?_
    (refine ⟨_, fun w H => run_load1 (At.cell h1 H rfl), ?_⟩; (with_reducible (repeat (first | refine pu_st ?_ | refine bn_st ?_))))
    refine pu_indexN hlt ?_
    (with_reducible (repeat (first | refine pu_st ?_ | refine bn_st ?_)))
    (refine ⟨_, fun w H => run_load1 (hl.pend H), ?_⟩; (with_reducible (repeat (first | refine pu_st ?_ | refine bn_st ?_))))
    (refine ⟨_, fun w H => run_len w, ?_⟩; (with_reducible (repeat (first | refine pu_st ?_ | refine bn_st ?_))))
    (refine ⟨fun w H => ?_, trivial⟩; (with_reducible (repeat (first | refine pu_st ?_ | refine bn_st ?_))))
    refine Cl.of memory_line_shows_en (shows_sp y.p.length (Nat.le_refl _) hyok.few hyok.word hl hpe hT H) ?_
    rintro _ w ⟨rfl, H⟩
    rw [List.take_length]
    (refine ⟨Sat _ _, Sat _ _, H, fun _ h => h, (by first | trivial | exact fun _ h => h | exact fun _ h => h.tail | exact fun _ h => h.tail.tail), ?_⟩; (with_reducible (repeat (first | refine pu_st ?_ | refine bn_st ?_))))
    refine pu_indexN hlt ?_
    (refine ⟨fun w H => ?_, trivial⟩; (with_reducible (repeat (first | refine pu_st ?_ | refine bn_st ?_))))
    refine bn_storeN (vs := seenC y) H Has.n0 rfl ?_ (w8C_one _) fun w H => ?_
    · rw [rowsF_len (fillR_rows seenC_len hzl M.L i), fillR_len _ _ _ _ (by omega)]
      have : (i + 1) * 8 ≤ M.L.length * 8 := Nat.mul_le_mul_right _ hlt
      simp [seenC, w8C]; omega
    (refine ⟨Sat _ _, Sat _ _, H, fun _ h => h, (by first | trivial | exact fun _ h => h | exact fun _ h => h.tail | exact fun _ h => h.tail.tail), ?_⟩; (with_reducible (repeat (first | refine pu_st ?_ | refine bn_st ?_))))
    (intro w H; (with_reducible (repeat (first | refine pu_st ?_ | refine bn_st ?_))))
    refine pu_succ (by omega) ?_
    refine ⟨⟨i + 1, by omega, rfl, ?_⟩, by simp [intOf]; omega⟩
    rw [Nat.zero_add, wrL_rows _ i _ (fillR_rows seenC_len hzl M.L i) (by rw [fillR_len _ _ _ _ (by omega)]; exact hlt) rfl, fillR_set _ _ _ _ _ hy] at H
    exact H
  · have : i = M.L.length := by omega
    subst this
    rw [fillR_end] at H
    exact H.shutS0 (rows_length seenC 8 seenC_len _)

end

end Go.Proofs.YtlolaieolgmdnaaDoor
