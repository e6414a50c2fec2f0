/-
  memory.From.
-/
import Derived.Test.YtlolaieolgmdnaaDoorMC

namespace Go.Proofs.YtlolaieolgmdnaaDoor

open Go.RowKit
set_option linter.unusedVariables false
set_option linter.unusedSimpArgs false
set_option maxRecDepth 10000

section

variable {c : Cx} {Γ : List HProp} {w : World}

/-- A line of an image. -/
abbrev Im := W8 × Int
def imgC (x : Im) : List Value := w8C x.1 ++ [.int .i64 x.2]
theorem imgC_len (x : Im) : (imgC x).length = 9 := rfl
theorem imgC_one (x : Im) : ∀ v ∈ imgC x, v.oneCell' = true := by simp [imgC, w8C, Value.oneCell']
def lineOf (x : Im) : LineS := ⟨x.1, x.2, [], 0⟩
def imOf (y : LineS) : Im := (y.x, y.c)
theorem imC_of (y : LineS) : imC y = imgC (imOf y) := rfl

def rightI (l : List Im) : Bool := decide (1 ≤ l.length ∧ l.length ≤ 4096) && l.all (fun x => validB x.1 x.2)

def nilS : Value := .slice none 0 0
def lnN (x : Im) : List Value := lnC (lineOf x, nilS)
theorem lnN_len (x : Im) : (lnN x).length = 11 := rfl

theorem zip_rep {α β : Type} (l : List α) (b : β) : l.zip (List.replicate l.length b) = l.map fun x => (x, b) := by
  induction l with
  | nil => rfl
  | cons x l ih => simp [List.replicate_succ, ih]

theorem validB_ok (l : W8) (k : Int) : validB l k = (okAll l && decide (0 ≤ k ∧ k ≤ 1023)) := by
  unfold okAll validB
  have : (decide ((0 : Int) ≤ 0 ∧ (0 : Int) ≤ 1023)) = true := by decide
  rw [this, Bool.and_true]

theorem no_right {l : List Im} {i : Nat} {x : Im} (hx : l[i]? = some x) (h : validB x.1 x.2 = false) : rightI l = false := by
  unfold rightI
  have : l.all (fun x => validB x.1 x.2) = false := by
    rw [List.all_eq_false]
    exact ⟨x, List.mem_of_getElem? hx, by simp [h]⟩
  rw [this, Bool.and_false]

theorem From_sp {v : Value} {l : List Im} (hn : l.length ≤ 9223372036854775807) (hv : SlR c v l.length ((l.map imgC).flatten)) (H : Sat c Γ w) :
    Calls Tryd.prog 5 #[v] w (Rt fun u w' => (rightI l = false ∧ u = .pointer none ∧ Sat c Γ w') ∨
      (rightI l = true ∧ ∃ m, u = .pointer (some ⟨m, 0, none⟩) ∧ Sat c (MemH m ⟨l.map lineOf, 0, []⟩ :: Γ) w')) := by
  refine memory_From_ok ?_
  unfold memory_From_w
  obtain ⟨a, cap, rfl, hle, hnil, -⟩ := hv H
  (with_reducible (repeat (first | refine pu_st ?_ | refine bn_st ?_)))
  refine condD (fun h1 => ?_) (fun h1 => ?_)
  · exact .inl ⟨by unfold rightI; simp; omega, rfl, H⟩
  (with_reducible (repeat (first | refine pu_st ?_ | refine bn_st ?_)))
  refine condD (fun h2 => ?_) (fun h2 => ?_)
  · exact .inl ⟨by unfold rightI; simp; omega, rfl, H⟩
  (with_reducible (repeat (first | refine pu_st ?_ | refine bn_st ?_)))
  refine bn_make H (by omega) (by omega) fun b w z hz hzl H => ?_
  have hze : z = lnN ((zer, 0) : Im) := by
    have h := hz.symm.trans (by kernel_rfl : sliceT Tryd.prog 50 = some (57, 11, 104, lnN ((zer, 0) : Im)))
    injection h with h
    injection h with _ h
    injection h with _ h
    injection h with _ h
  (with_reducible (repeat (first | refine pu_st ?_ | refine bn_st ?_)))
  refine ⟨fun v w => ∃ i : Nat, i ≤ l.length ∧ v = .int .i64 (i : Int) ∧ (∀ j x, j < i → l[j]? = some x → validB x.1 x.2 = true) ∧ Sat c (blk b ((fillR lnN z l i).flatten) 57 :: Γ) w, fun v _ => l.length - (intOf v).toNat, ⟨0, Nat.zero_le _, rfl, fun j x h => by omega, by rw [fillR_zero]; exact H⟩, ?_⟩
  intros
  rename_i w hI
  obtain ⟨i, hi, rfl, hall, H⟩ := hI
  (with_reducible (repeat (first | refine pu_st ?_ | refine bn_st ?_)))
  refine condD (fun hlt => ?_) (fun hlt => ?_)
  · have hlt : i < l.length := by omega
    obtain ⟨x, hx⟩ : ∃ x, l[i]? = some x := ⟨l[i]'(by omega), List.getElem?_eq_getElem _⟩
    obtain ⟨b1, o1, cap1, e, -, hc⟩ := slAt.elem (enc := imgC) imgC_len (hv H) hx
    cases e
    refine pu_indexN hlt ?_
    refine bn_loadN hc rfl ?_
    refine bn_alloc H fun b5 w H => ?_
    refine bn_storeN (vs := imgC x) H Has.n0 rfl (by simp [imgC, w8C]) (imgC_one x) fun w H => ?_
    replace H : Sat c (blk b5 (imgC x) 53 :: blk b ((fillR lnN z l i).flatten) 57 :: Γ) w := H
    (with_reducible (repeat (first | refine pu_st ?_ | refine bn_st ?_)))
    refine bn_loadN (vs := w8C x.1) (H.cells Has.n0 ?_) rfl ?_
    · intro j v hj
      rcases j with _ | _ | _ | _ | _ | _ | _ | _ | j <;> first | exact hj | (simp [w8C] at hj)
    refine Cl.of memory_words_en (words_sp x.1 H) ?_
    rintro _ w ⟨rfl, H⟩
    (with_reducible (repeat (first | refine pu_st ?_ | refine bn_st ?_)))
    refine condNB (fun hw => ?_) (fun hw => ?_)
    · exact .inl ⟨no_right hx (by rw [validB_ok, hw]; rfl), rfl, H.tail.tail⟩
    (with_reducible (repeat (first | refine pu_st ?_ | refine bn_st ?_)))
    (refine bn_load1 (Sat.cell H Has.n0 rfl) ?_; (with_reducible (repeat (first | refine pu_st ?_ | refine bn_st ?_))))
    refine condD (fun h3 => ?_) (fun h3 => ?_)
    · exact .inl ⟨no_right hx (by rw [validB_ok]; simp; omega), rfl, H.tail.tail⟩
    (with_reducible (repeat (first | refine pu_st ?_ | refine bn_st ?_)))
    (refine bn_load1 (Sat.cell H Has.n0 rfl) ?_; (with_reducible (repeat (first | refine pu_st ?_ | refine bn_st ?_))))
    refine condD (fun h4 => ?_) (fun h4 => ?_)
    · exact .inl ⟨no_right hx (by rw [validB_ok]; simp; omega), rfl, H.tail.tail⟩
    refine bn_loadN (vs := imgC x) (H.cells0 Has.n0) rfl ?_
    refine pu_indexN hlt ?_
    (with_reducible (repeat (first | refine pu_st ?_ | refine bn_st ?_)))
    have hrow : (fillR lnN z l i)[i]? = some z := by
      unfold fillR
      rw [List.getElem?_append_right (by simp; omega), List.getElem?_replicate]
      simp; omega
    refine bn_storeN (vs := imgC x) H Has.n1 rfl ?_ (imgC_one x) fun w H => ?_
    · rw [rowsF_len (fillR_rows lnN_len hzl l i), fillR_len _ _ _ _ (by omega), imgC_len]
      have : (i + 1) * 11 ≤ l.length * 11 := Nat.mul_le_mul_right _ hlt
      omega
    refine pu_succ (by omega) ?_
    refine ⟨⟨i + 1, by omega, rfl, ?_, ?_⟩, by simp [intOf]; omega⟩
    · intro j y hj hy
      rcases (by omega : j < i ∨ j = i) with h | rfl
      · exact hall j y h hy
      · rw [hx] at hy; cases hy; rw [validB_ok, hw]; simp; omega
    · rw [Nat.zero_add, show i * 11 = i * 11 + 0 from rfl, wrL_rowsO _ i 0 z _ (fillR_rows lnN_len hzl l i) hrow (by rw [imgC_len]; omega)] at H
      have e2 : wrL z 0 (imgC x) = lnN x := by rw [hze]; rfl
      rw [e2, fillR_set _ _ _ _ _ hx] at H
      exact (H.get Has.n1).tail
  · have : i = l.length := by omega
    subst this
    rw [fillR_end] at H
    refine bn_map H fun mb w H => ?_
    refine pu_build (cs := [.slice (some ⟨b, 0, none⟩) l.length l.length, .map (some mb), .int .i64 0, nilS]) rfl ?_
    refine bn_box rfl H fun m w H => ?_
    refine .inr ⟨?_, m, rfl, ?_⟩
    · unfold rightI
      rw [Bool.and_eq_true, List.all_eq_true]
      refine ⟨by simp; omega, fun x hx => ?_⟩
      obtain ⟨j, hj, rfl⟩ := List.getElem_of_mem hx
      exact hall j _ hj (List.getElem?_eq_getElem hj)
    · have hz2 : (l.map lineOf).zip (List.replicate (l.map lineOf).length nilS) = l.map fun x => (lineOf x, nilS) := by rw [zip_rep, List.map_map]; rfl
      refine Sat.shutM (lv := .slice (some ⟨b, 0, none⟩) l.length l.length) (ev := nilS) (mb := mb) (ps := List.replicate (l.map lineOf).length nilS) (es := #[]) (ck := 0) (psOk_rep _) ?_ ?_
      · exact ⟨by simp, fun n y hy hp => absurd (by obtain ⟨x, _, rfl⟩ := List.mem_map.1 (List.mem_of_getElem? hy); rfl) hp, by simp, by simp, by simp⟩
      · rw [hz2]
        have H1 := ((H.get Has.n2).shutS0 (sz := 11) (n := (l.map lineOf).length) (by rw [rows_length lnN 11 lnN_len]; simp))
        have H2 : Sat c (big ((l.map fun x => (lineOf x, nilS)).map pendH) :: ownS 77 12 nilS 0 [] :: ownS 57 11 (.slice (some ⟨b, 0, none⟩) (l.map lineOf).length (l.map lineOf).length) (l.map lineOf).length ((l.map lnN).flatten) :: blk m [.slice (some ⟨b, 0, none⟩) l.length l.length, .map (some mb), .int .i64 0, nilS] 61 :: obj mb (.map #[] 0) :: Γ) w :=
          Sat.bigNil (Sat.nilS none H1) (by
            intro p hp
            obtain ⟨y, hy, rfl⟩ := List.mem_map.1 hp
            obtain ⟨x, _, rfl⟩ := List.mem_map.1 hy
            exact ownS_nil _ _ none _)
        have e3 : ((l.map fun x => (lineOf x, nilS)).map lnC).flatten = (l.map lnN).flatten := by rw [List.map_map]; rfl
        rw [e3]
        have H3 := H2.pull (ps := [blk m [.slice (some ⟨b, 0, none⟩) l.length l.length, .map (some mb), .int .i64 0, nilS] 61, ownS 57 11 (.slice (some ⟨b, 0, none⟩) (l.map lineOf).length (l.map lineOf).length) (l.map lineOf).length ((l.map lnN).flatten),
          obj mb (.map #[] 0), ownS 77 12 nilS 0 [], big ((l.map fun x => (lineOf x, nilS)).map pendH)]) (.cons Has.n3 (.cons Has.n2 (.cons Has.n2 (.cons Has.n1 (.cons Has.n0 .nil)))))
        simpa using H3

end

end Go.Proofs.YtlolaieolgmdnaaDoor
