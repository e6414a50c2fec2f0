/-
  Searches by a function; words; memory.From.
-/
import Derived.Test.YtlolaieolgmdnaaDoorMB

namespace Go.Proofs.YtlolaieolgmdnaaDoor

open Go.RowKit
set_option linter.unusedVariables false
set_option linter.unusedSimpArgs false
set_option maxRecDepth 10000

section

variable {c : Cx} {Γ : List HProp} {w : World}

def intC (n : Int) : List Value := [.int .i64 n]

/-- A slice's k-th element, where the slice can be read. -/
theorem slAt.elem {α : Type} {enc : α → List Value} {k : Nat} (hk : ∀ x, (enc x).length = k) {v : Value} {l : List α} (h : slAt w v l.length ((l.map enc).flatten)) {i : Nat} {x : α} (hx : l[i]? = some x) :
    ∃ b o cap, v = .slice (some ⟨b, o, none⟩) l.length cap ∧ l.length ≤ cap ∧ cellsAt w b (o + i * k) (enc x) := by
  have hlt : i < l.length := (List.getElem?_eq_some_iff.1 hx).1
  obtain ⟨a, cap, rfl, hle, hn, hc⟩ := h
  obtain ⟨⟨b, o, sp⟩, rfl⟩ : ∃ y, a = some y := by
    cases a with
    | none => exact absurd (hn rfl) (by omega)
    | some y => exact ⟨y, rfl⟩
  obtain ⟨rfl, hc2⟩ := (hc b o sp rfl).resolve_left (by omega)
  refine ⟨b, o, cap, rfl, hle, fun j v hj => ?_⟩
  rw [Nat.add_assoc]
  exact hc2 _ _ (by rw [rows_cell enc k hk l i x hx j (by have := (List.getElem?_eq_some_iff.1 hj).1; rwa [hk] at this)]; exact hj)

/-- What a function value answers of an element. -/
def Asks {α : Type} (c : Cx) (f : FuncId) (first captured : Array Value) (enc : α → Value) (p : α → Bool) (l : List α) : Prop :=
  ∀ x ∈ l, ∀ {Γ : List HProp} {w : World}, Sat c Γ w → Calls Tryd.prog f (first ++ #[enc x] ++ captured) w (Rt (Yes c Γ (.bool (p x))))

def intV (n : Int) : Value := .int .i64 n

theorem IndexInt_sp {v : Value} {l : List Int} {f : FuncId} {first captured : Array Value} {p : Int → Bool} (hn : l.length ≤ 1000000) (he : enters Tryd.prog f = true) (hv : SlR c v l.length ((l.map intC).flatten)) (hf : Asks c f first captured intV p l) (H : Sat c Γ w) :
    Calls Tryd.prog 58 #[v, .func (.func f) first captured] w (Rt fun u w' => ∃ r : Int, u = .int .i64 r ∧ (decide (0 ≤ r) = l.any p) ∧ Sat c Γ w') := by
  refine slices_IndexFunc_int_int_ok ?_
  unfold slices_IndexFunc_int_int_w
  obtain ⟨a, cap, rfl, hle, hnil, -⟩ := hv H
  (with_reducible (repeat (first | refine pu_st ?_ | refine bn_st ?_)))
  refine ⟨fun v w => ∃ i : Nat, i ≤ l.length ∧ v = .int .i64 (i : Int) ∧ (l.take i).any p = false ∧ Sat c Γ w, fun v _ => l.length - (intOf v).toNat, ⟨0, Nat.zero_le _, rfl, rfl, H⟩, ?_⟩
  intros
  rename_i w hI
  obtain ⟨i, hi, rfl, hno, H⟩ := hI
  (with_reducible (repeat (first | refine pu_st ?_ | refine bn_st ?_)))
  refine condD (fun hlt => ?_) (fun hlt => ?_)
  · have hlt : i < l.length := by omega
    obtain ⟨x, hx⟩ : ∃ x, l[i]? = some x := ⟨l[i]'(by omega), List.getElem?_eq_getElem _⟩
    obtain ⟨b, o, cap', e, -, hc⟩ := slAt.elem (enc := intC) (k := 1) (fun _ => rfl) (hv H) hx
    cases e
    refine pu_indexN hlt ?_
    refine bn_load1 (hc 0 _ rfl) ?_
    refine Clv.of (Cl.of he (hf x (List.mem_of_getElem? hx) H) ?_)
    rintro _ w ⟨rfl, H⟩
    refine condB (fun hp => ?_) (fun hp => ?_)
    · refine ⟨i, rfl, ?_, H⟩
      have : l.any p = true := List.any_eq_true.2 ⟨x, List.mem_of_getElem? hx, hp⟩
      rw [this]; simp
    · refine pu_succ (by omega) ?_
      refine ⟨⟨i + 1, by omega, rfl, ?_, H⟩, by simp [intOf]; omega⟩
      rw [take_succ_of hx, List.any_append, hno]; simp [hp]
  · have : i = l.length := by omega
    subst this
    rw [List.take_length] at hno
    exact ⟨-1, rfl, by rw [hno]; simp, H⟩

theorem ContainsInt_sp {v : Value} {l : List Int} {f : FuncId} {first captured : Array Value} {p : Int → Bool} (hn : l.length ≤ 1000000) (he : enters Tryd.prog f = true) (hv : SlR c v l.length ((l.map intC).flatten)) (hf : Asks c f first captured intV p l) (H : Sat c Γ w) :
    Calls Tryd.prog 43 #[v, .func (.func f) first captured] w (Rt (Yes c Γ (.bool (l.any p)))) := by
  refine slices_ContainsFunc_int_int_ok ?_
  unfold slices_ContainsFunc_int_int_w
  refine Cl.of slices_IndexFunc_int_int_en (IndexInt_sp hn he hv hf H) ?_
  rintro _ w ⟨r, rfl, hr, H⟩
  (with_reducible (repeat (first | refine pu_st ?_ | refine bn_st ?_)))
  exact ⟨by rw [hr], H⟩

/-! ### Words -/

theorem word_sp (n : Int) (H : Sat c Γ w) : Calls Tryd.prog 45 #[.int .i64 n] w (Rt (Yes c Γ (.bool (okW n)))) := by
  refine memory_word_ok ?_
  unfold memory_word_w
  (with_reducible (repeat (first | refine pu_st ?_ | refine bn_st ?_)))
  refine condD (fun h0 => ?_) (fun h0 => ?_)
  · (with_reducible (repeat (first | refine pu_st ?_ | refine bn_st ?_)))
    exact ⟨by simp [okW, h0], H⟩
  · exact ⟨by simp [okW, h0], H⟩

theorem notWord_sp (n : Int) (H : Sat c Γ w) : Calls Tryd.prog 44 #[.int .i64 n] w (Rt (Yes c Γ (.bool (!okW n)))) := by
  refine memory_words_1_ok ?_
  unfold memory_words_1_w
  refine Cl.of memory_word_en (word_sp n H) ?_
  rintro _ w ⟨rfl, H⟩
  (with_reducible (repeat (first | refine pu_st ?_ | refine bn_st ?_)))
  exact ⟨rfl, H⟩

def w8L (l : W8) : List Int := [l.a0, l.a1, l.a2, l.a3, l.a4, l.a5, l.a6, l.a7]
def okAll (l : W8) : Bool := validB l 0

theorem okAll_any (l : W8) : (!(w8L l).any fun n => !okW n) = okAll l := by
  unfold okAll validB
  have : (decide ((0 : Int) ≤ 0 ∧ (0 : Int) ≤ 1023)) = true := by decide
  rw [this, Bool.and_true]
  simp [w8L, List.range_succ, W8.get, Bool.not_or, Bool.and_assoc]

theorem w8L_flat (l : W8) : ((w8L l).map intC).flatten = w8C l := rfl

theorem words_sp (l : W8) (H : Sat c Γ w) : Calls Tryd.prog 21 #[.agg (w8C l).toArray] w (Rt (Yes c Γ (.bool (okAll l)))) := by
  refine memory_words_ok ?_
  unfold memory_words_w
  refine bn_box (z := w8C l) rfl H fun b w H => ?_
  refine pu_sliceArr ?_
  obtain ⟨c', hA, hm, H', back⟩ := H.lent
  have hv : SlR c' (.slice (some ⟨b, 0, none⟩) 8 8) (w8L l).length (((w8L l).map intC).flatten) := fun H2 =>
    ⟨_, 8, rfl, Nat.le_refl _, (fun h => by cases h), fun b' o sp h => by cases h; exact .inr ⟨rfl, fun j v hj => by rw [Nat.zero_add]; exact hA.cell H2 hj⟩⟩
  refine Cl.of slices_ContainsFunc_int_int_en (ContainsInt_sp (first := #[]) (captured := #[]) (p := fun n => !okW n) (by simp [w8L]) memory_words_1_en hv (fun x _ {Γ w} H => notWord_sp x H) H') ?_
  rintro _ w ⟨rfl, H'⟩
  (with_reducible (repeat (first | refine pu_st ?_ | refine bn_st ?_)))
  exact ⟨by rw [okAll_any], (back H').tail⟩

end

end Go.Proofs.YtlolaieolgmdnaaDoor
