/-
  SameImage, SameSeen, Same: two lists of elements of ints. (Printed by gen_same.py.)
-/
import Derived.Test.YtlolaieolgmdnaaDoorRB

import Derived.Test.YtlolaieolgmdnaaDoorSh3

namespace Go.Proofs.YtlolaieolgmdnaaDoor

open Go.RowKit
set_option linter.unusedVariables false
set_option linter.unusedSimpArgs false
set_option maxRecDepth 10000

section

variable {c : Cx} {Γ : List HProp} {w : World}

def imgL (x : Im) : List Int := w8L x.1 ++ [x.2]
theorem imgL_len (x : Im) : (imgL x).length = 9 := rfl
theorem imgC_L (x : Im) : imgC x = (imgL x).map iV := rfl
theorem w8L_len (x : W8) : (w8L x).length = 8 := rfl
theorem w8C_L (x : W8) : w8C x = (w8L x).map iV := rfl

abbrev En := Int × Int
def enL (x : En) : List Int := [x.1, x.2]
def enC (x : En) : List Value := [.int .i64 x.1, .int .i64 x.2]
theorem enC_len (x : En) : (enC x).length = 2 := rfl
theorem enL_len (x : En) : (enL x).length = 2 := rfl
theorem enC_L (x : En) : enC x = (enL x).map iV := rfl
theorem w8C_len (x : W8) : (w8C x).length = 8 := rfl

theorem map_get_eq {α β : Type} {f : α → β} {a b : List α} (h : a.length = b.length) : (a.map f = b.map f) ↔ ∀ (j : Nat) (x y : α), a[j]? = some x → b[j]? = some y → f x = f y := by
  constructor
  · intro e j x y hx hy
    have h1 : (a.map f)[j]? = some (f x) := by rw [List.getElem?_map, hx]; rfl
    have h2 : (b.map f)[j]? = some (f y) := by rw [List.getElem?_map, hy]; rfl
    rw [e, h2] at h1
    injection h1 with h1
    exact h1.symm
  · intro hj
    apply List.ext_getElem?
    intro j
    rw [List.getElem?_map, List.getElem?_map]
    rcases hx : a[j]? with _ | x
    · have : b[j]? = none := by rw [List.getElem?_eq_none_iff] at hx ⊢; omega
      rw [this]
    · obtain ⟨y, hy⟩ : ∃ y, b[j]? = some y := ⟨b[j]'(by have := (List.getElem?_eq_some_iff.1 hx).1; omega), List.getElem?_eq_getElem _⟩
      rw [hy]; simp [hj j x y hx hy]

theorem SameSeen_sp {u v : Value} {a b : List W8} (ha : a.length ≤ 1000000) (hu : SlR c u a.length ((a.map w8C).flatten)) (hv : SlR c v b.length ((b.map w8C).flatten)) (H : Sat c Γ w) :
    Calls Tryd.prog 18 #[u, v] w (Rt (Yes c Γ (.bool (decide (a.map w8L = b.map w8L))))) := by
  refine alumref04_SameSeen_ok ?_
  unfold alumref04_SameSeen_w
  obtain ⟨ad, cap, rfl, hle, hnil, -⟩ := hu H
  obtain ⟨bd, cap2, rfl, hle2, hnil2, -⟩ := hv H
  (with_reducible (repeat (first | refine pu_st ?_ | refine bn_st ?_)))
  refine condND (fun hl => ?_) (fun hl => ?_)
  · refine ⟨?_, H⟩
    rw [Value.bool.injEq]
    refine (decide_eq_false fun h => hl ?_).symm
    have := congrArg List.length h
    simp only [List.length_map] at this
    omega
  have hl : a.length = b.length := by omega
  refine ⟨fun v w => ∃ i : Nat, i ≤ a.length ∧ v = .int .i64 (i : Int) ∧ (∀ j x y, j < i → a[j]? = some x → b[j]? = some y → w8L x = w8L y) ∧ Sat c Γ w, fun v _ => a.length - (intOf v).toNat, ⟨0, Nat.zero_le _, rfl, fun j x y h => absurd h (Nat.not_lt_zero _), H⟩, ?_⟩
  intros
  rename_i w hI
  obtain ⟨i, hi, rfl, hall, H⟩ := hI
  (with_reducible (repeat (first | refine pu_st ?_ | refine bn_st ?_)))
  refine condD (fun hlt => ?_) (fun hlt => ?_)
  · have hlt : i < a.length := by omega
    have hlt2 : i < b.length := by omega
    obtain ⟨x, hx⟩ : ∃ x, a[i]? = some x := ⟨a[i]'(by omega), List.getElem?_eq_getElem _⟩
    obtain ⟨y, hy⟩ : ∃ y, b[i]? = some y := ⟨b[i]'(by omega), List.getElem?_eq_getElem _⟩
    obtain ⟨b1, o1, cap1, e, -, -⟩ := slAt.elem (enc := w8C) w8C_len (hu H) hx
    cases e
    obtain ⟨b2, o2, cap3, e, -, -⟩ := slAt.elem (enc := w8C) w8C_len (hv H) hy
    cases e
    have hc1 : ∀ {Γ : List HProp} {w : World}, Sat c Γ w → cellsAt w b1 (o1 + i * 8) (((w8L x).map iV)) := fun H => by
      obtain ⟨b', o', cap', e, -, hc⟩ := slAt.elem (enc := w8C) w8C_len (hu H) hx
      cases e; exact hc
    have hc2 : ∀ {Γ : List HProp} {w : World}, Sat c Γ w → cellsAt w b2 (o2 + i * 8) (((w8L y).map iV)) := fun H => by
      obtain ⟨b', o', cap', e, -, hc⟩ := slAt.elem (enc := w8C) w8C_len (hv H) hy
      cases e; exact hc
    (refine ⟨Sat _ _, Sat _ _, Sat.drew H, fun _ h => h, ?_⟩; (with_reducible (repeat (first | refine pu_st ?_ | refine bn_st ?_))))
    refine pu_indexN hlt ?_
    (with_reducible (repeat (first | refine pu_st ?_ | refine bn_st ?_)))
    refine pu_indexN hlt2 ?_
    (with_reducible (repeat (first | refine pu_st ?_ | refine bn_st ?_)))
    (refine ⟨_, fun w H => run_loadN rfl (hc1 H), ?_⟩; (with_reducible (repeat (first | refine pu_st ?_ | refine bn_st ?_))))
    (refine ⟨_, fun w H => run_loadN rfl (hc2 H), ?_⟩; (with_reducible (repeat (first | refine pu_st ?_ | refine bn_st ?_))))
    refine pu_neqA (w8L_len x) (w8L_len y) ?_
    (intro w H; (with_reducible (repeat (first | refine pu_st ?_ | refine bn_st ?_))))
    refine condND (fun he => ?_) (fun he => ?_)
    · refine ⟨?_, H⟩
      rw [Value.bool.injEq]
      exact (decide_eq_false fun h => he ((map_get_eq hl).1 h i x y hx hy)).symm
    · refine pu_succ (by omega) ?_
      refine ⟨⟨i + 1, by omega, rfl, ?_, H⟩, by simp [intOf]; omega⟩
      intro j x' y' hj hx' hy'
      rcases (by omega : j < i ∨ j = i) with h | rfl
      · exact hall j x' y' h hx' hy'
      · rw [hx] at hx'; rw [hy] at hy'; cases hx'; cases hy'; exact he
  · have : i = a.length := by omega
    subst this
    refine ⟨?_, H⟩
    rw [Value.bool.injEq]
    exact (decide_eq_true ((map_get_eq hl).2 fun j x y hx hy => hall j x y (List.getElem?_eq_some_iff.1 hx).1 hx hy)).symm

theorem SameEn_sp {u v : Value} {a b : List En} (ha : a.length ≤ 1000000) (hu : SlR c u a.length ((a.map enC).flatten)) (hv : SlR c v b.length ((b.map enC).flatten)) (H : Sat c Γ w) :
    Calls Tryd.prog 20 #[u, v] w (Rt (Yes c Γ (.bool (decide (a.map enL = b.map enL))))) := by
  refine alumref10_Same_ok ?_
  unfold alumref10_Same_w
  obtain ⟨ad, cap, rfl, hle, hnil, -⟩ := hu H
  obtain ⟨bd, cap2, rfl, hle2, hnil2, -⟩ := hv H
  (with_reducible (repeat (first | refine pu_st ?_ | refine bn_st ?_)))
  refine condND (fun hl => ?_) (fun hl => ?_)
  · refine ⟨?_, H⟩
    rw [Value.bool.injEq]
    refine (decide_eq_false fun h => hl ?_).symm
    have := congrArg List.length h
    simp only [List.length_map] at this
    omega
  have hl : a.length = b.length := by omega
  refine ⟨fun v w => ∃ i : Nat, i ≤ a.length ∧ v = .int .i64 (i : Int) ∧ (∀ j x y, j < i → a[j]? = some x → b[j]? = some y → enL x = enL y) ∧ Sat c Γ w, fun v _ => a.length - (intOf v).toNat, ⟨0, Nat.zero_le _, rfl, fun j x y h => absurd h (Nat.not_lt_zero _), H⟩, ?_⟩
  intros
  rename_i w hI
  obtain ⟨i, hi, rfl, hall, H⟩ := hI
  (with_reducible (repeat (first | refine pu_st ?_ | refine bn_st ?_)))
  refine condD (fun hlt => ?_) (fun hlt => ?_)
  · have hlt : i < a.length := by omega
    have hlt2 : i < b.length := by omega
    obtain ⟨x, hx⟩ : ∃ x, a[i]? = some x := ⟨a[i]'(by omega), List.getElem?_eq_getElem _⟩
    obtain ⟨y, hy⟩ : ∃ y, b[i]? = some y := ⟨b[i]'(by omega), List.getElem?_eq_getElem _⟩
    obtain ⟨b1, o1, cap1, e, -, -⟩ := slAt.elem (enc := enC) enC_len (hu H) hx
    cases e
    obtain ⟨b2, o2, cap3, e, -, -⟩ := slAt.elem (enc := enC) enC_len (hv H) hy
    cases e
    have hc1 : ∀ {Γ : List HProp} {w : World}, Sat c Γ w → cellsAt w b1 (o1 + i * 2) (((enL x).map iV)) := fun H => by
      obtain ⟨b', o', cap', e, -, hc⟩ := slAt.elem (enc := enC) enC_len (hu H) hx
      cases e; exact hc
    have hc2 : ∀ {Γ : List HProp} {w : World}, Sat c Γ w → cellsAt w b2 (o2 + i * 2) (((enL y).map iV)) := fun H => by
      obtain ⟨b', o', cap', e, -, hc⟩ := slAt.elem (enc := enC) enC_len (hv H) hy
      cases e; exact hc
    (refine ⟨Sat _ _, Sat _ _, Sat.drew H, fun _ h => h, ?_⟩; (with_reducible (repeat (first | refine pu_st ?_ | refine bn_st ?_))))
    refine pu_indexN hlt ?_
    (with_reducible (repeat (first | refine pu_st ?_ | refine bn_st ?_)))
    refine pu_indexN hlt2 ?_
    (with_reducible (repeat (first | refine pu_st ?_ | refine bn_st ?_)))
    (refine ⟨_, fun w H => run_loadN rfl (hc1 H), ?_⟩; (with_reducible (repeat (first | refine pu_st ?_ | refine bn_st ?_))))
    (refine ⟨_, fun w H => run_loadN rfl (hc2 H), ?_⟩; (with_reducible (repeat (first | refine pu_st ?_ | refine bn_st ?_))))
    refine pu_neqA (enL_len x) (enL_len y) ?_
    (intro w H; (with_reducible (repeat (first | refine pu_st ?_ | refine bn_st ?_))))
    refine condND (fun he => ?_) (fun he => ?_)
    · refine ⟨?_, H⟩
      rw [Value.bool.injEq]
      exact (decide_eq_false fun h => he ((map_get_eq hl).1 h i x y hx hy)).symm
    · refine pu_succ (by omega) ?_
      refine ⟨⟨i + 1, by omega, rfl, ?_, H⟩, by simp [intOf]; omega⟩
      intro j x' y' hj hx' hy'
      rcases (by omega : j < i ∨ j = i) with h | rfl
      · exact hall j x' y' h hx' hy'
      · rw [hx] at hx'; rw [hy] at hy'; cases hx'; cases hy'; exact he
  · have : i = a.length := by omega
    subst this
    refine ⟨?_, H⟩
    rw [Value.bool.injEq]
    exact (decide_eq_true ((map_get_eq hl).2 fun j x y hx hy => hall j x y (List.getElem?_eq_some_iff.1 hx).1 hx hy)).symm

end

end Go.Proofs.YtlolaieolgmdnaaDoor
