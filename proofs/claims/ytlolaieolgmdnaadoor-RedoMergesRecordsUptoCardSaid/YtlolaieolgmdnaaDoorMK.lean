/-
  Entries checked and applied.
-/
import Derived.Test.YtlolaieolgmdnaaDoorMI

import Derived.Test.YtlolaieolgmdnaaDoorRJ

import Derived.Test.YtlolaieolgmdnaaDoorRH

namespace Go.Proofs.YtlolaieolgmdnaaDoor

open Go.RowKit
set_option linter.unusedVariables false
set_option linter.unusedSimpArgs false
set_option maxRecDepth 10000

def badA (M : MemS) (x : En) : Bool := !hasV M.L.length x.1
def badV (x : En) : Bool := decide (x.2 < 0 ∨ x.2 > 1099511627775)
def badR (M : MemS) (x : En) : Bool := decide (stateM M.L (x.1.tdiv 8) = 2)
def checkM (M : MemS) (E : List En) : Int := if E.any (badA M) then 40 else if E.any badV then 1 else if E.any (badR M) then 9 else 0
def storesM (M : MemS) (E : List En) : MemS := E.foldl (fun M x => (putM M 1 x.1 x.2).2) M
def flushesM (M : MemS) (ks : List Int) : MemS := ks.foldl (fun M k => (flushM M k).2) M
def applyM (M : MemS) (E : List En) : Int × MemS := if checkM M E = 0 then (0, fenceM (flushesM (storesM M E) (linesE E))) else (checkM M E, M)

section

variable {c : Cx} {Γ Δ Ω : List HProp} {w : World} {m r : Nat} {M : MemS} {lv ev : Value} {ps : List Value} {mb ck : Nat} {es : Array MapEntry} {E : List En}

def enV (x : En) : Value := .agg (enC x).toArray

theorem IndexEn_sp {v : Value} {l : List En} {f : FuncId} {first captured : Array Value} {p : En → Bool} (hn : l.length ≤ 1000000) (he : enters Tryd.prog f = true) (hv : SlR c v l.length ((l.map enC).flatten)) (hf : Asks c f first captured enV p l) (H : Sat c Γ w) :
    Calls Tryd.prog 46 #[v, .func (.func f) first captured] w (Rt fun u w' => ∃ r : Int, u = .int .i64 r ∧ (decide (0 ≤ r) = l.any p) ∧ Sat c Γ w') := by
  refine slices_IndexFunc_api_Entry_api_Entry_ok ?_
  unfold slices_IndexFunc_api_Entry_api_Entry_w
  obtain ⟨a, cap, rfl, hle, hnil, -⟩ := hv H
  (with_reducible (repeat (first | refine pu_st ?_ | refine bn_st ?_)))
  refine ⟨fun v w => ∃ i : Nat, i ≤ l.length ∧ v = .int .i64 (i : Int) ∧ (l.take i).any p = false ∧ Sat c Γ w, fun v _ => l.length - (intOf v).toNat, ⟨0, Nat.zero_le _, rfl, rfl, H⟩, ?_⟩
  intros
  rename_i w hI
  obtain ⟨i, hi, rfl, hno, H⟩ := hI
  (with_reducible (repeat (first | refine pu_st ?_ | refine bn_st ?_)))
  refine condD (fun hlt => ?_) (fun hlt => ?_)
  · have hlt : i < l.length := by omega
    obtain ⟨x, hx⟩ : ∃ x, l[i]? = some x := ⟨l[i]'(by omega), List.getElem?_eq_getElem _⟩
    obtain ⟨b, o, cap', e, hc⟩ := hv.en H hx
    cases e
    refine pu_indexN hlt ?_
    refine bn_loadN (hc H) rfl ?_
    refine Clv.of (Cl.of he (hf x (List.mem_of_getElem? hx) H) ?_)
    rintro _ w ⟨rfl, H⟩
    refine condB (fun hp => ?_) (fun hp => ?_)
    · refine ⟨i, rfl, ?_, H⟩
      have : l.any p = true := List.any_eq_true.2 ⟨x, List.mem_of_getElem? hx, hp⟩
      rw [this]; simp
    · refine pu_succ (by omega) ?_
      refine ⟨⟨i + 1, by omega, rfl, ?_, H⟩, by simp [intOf]; omega⟩
      rw [take_succ_of hx, List.any_append, hno]; simp [hp]
  · have : i = l.length := by omega
    subst this
    rw [List.take_length] at hno
    exact ⟨-1, rfl, by rw [hno]; simp, H⟩

theorem ContainsEn_sp {v : Value} {l : List En} {f : FuncId} {first captured : Array Value} {p : En → Bool} (hn : l.length ≤ 1000000) (he : enters Tryd.prog f = true) (hv : SlR c v l.length ((l.map enC).flatten)) (hf : Asks c f first captured enV p l) (H : Sat c Γ w) :
    Calls Tryd.prog 22 #[v, .func (.func f) first captured] w (Rt (Yes c Γ (.bool (l.any p)))) := by
  refine slices_ContainsFunc_api_Entry_api_Entry_ok ?_
  unfold slices_ContainsFunc_api_Entry_api_Entry_w
  refine Cl.of slices_IndexFunc_api_Entry_api_Entry_en (IndexEn_sp hn he hv hf H) ?_
  rintro _ w ⟨r, rfl, hr, H⟩
  (with_reducible (repeat (first | refine pu_st ?_ | refine bn_st ?_)))
  exact ⟨by rw [hr], H⟩

theorem chk1_sp {b : Nat} (x : En) (hx : i64 x.1) (hb : At c (blk b [.pointer (some ⟨m, 0, none⟩)] 25)) (R : MemR c m M lv ps mb es ck ev) (H : Sat c Γ w) :
    Calls Tryd.prog 23 #[enV x, .pointer (some ⟨b, 0, none⟩)] w (Rt (Yes c Γ (.bool (badA M x)))) := by
  refine redo_Check_1_ok ?_
  unfold redo_Check_1_w
  refine bn_box (z := enC x) rfl H fun b2 w H => ?_
  (refine bn_load1 (At.cell hb H rfl) ?_; (with_reducible (repeat (first | refine pu_st ?_ | refine bn_st ?_))))
  refine bn_load1 (H.cell (cs := enC x) (t := 34) Has.n0 rfl) ?_
  refine Cl.of redo_has_en (hasA_sp x.1 hx R H) ?_
  rintro _ w ⟨rfl, H⟩
  (with_reducible (repeat (first | refine pu_st ?_ | refine bn_st ?_)))
  exact ⟨rfl, H.tail⟩

theorem chk2_sp (x : En) (H : Sat c Γ w) : Calls Tryd.prog 25 #[enV x] w (Rt (Yes c Γ (.bool (badV x)))) := by
  refine redo_Check_2_ok ?_
  unfold redo_Check_2_w badV
  refine bn_box (z := enC x) rfl H fun b2 w H => ?_
  (with_reducible (repeat (first | refine pu_st ?_ | refine bn_st ?_)))
  refine bn_load1 (H.cell (cs := enC x) (t := 34) Has.n0 rfl) ?_
  (with_reducible (repeat (first | refine pu_st ?_ | refine bn_st ?_)))
  refine condD (fun h0 => ?_) (fun h0 => ?_)
  · exact ⟨by rw [Value.bool.injEq]; exact (decide_eq_true (.inl h0)).symm, H.tail⟩
  (with_reducible (repeat (first | refine pu_st ?_ | refine bn_st ?_)))
  refine bn_load1 (H.cell (cs := enC x) (t := 34) Has.n0 rfl) ?_
  (with_reducible (repeat (first | refine pu_st ?_ | refine bn_st ?_)))
  exact ⟨by rw [Value.bool.injEq]; exact decide_eq_decide.2 (by omega), H.tail⟩

theorem chk3_sp {b : Nat} (x : En) (hx : i64 x.1) (hb : At c (blk b [.pointer (some ⟨m, 0, none⟩)] 25)) (R : MemR c m M lv ps mb es ck ev) (hT : TabC c) (H : Sat c Γ w) :
    Calls Tryd.prog 26 #[enV x, .pointer (some ⟨b, 0, none⟩)] w (Rt (Yes c Γ (.bool (badR M x)))) := by
  refine redo_Check_3_ok ?_
  unfold redo_Check_3_w badR
  refine bn_box (z := enC x) rfl H fun b2 w H => ?_
  (refine bn_load1 (At.cell hb H rfl) ?_; (with_reducible (repeat (first | refine pu_st ?_ | refine bn_st ?_))))
  refine bn_load1 (H.cell (cs := enC x) (t := 34) Has.n0 rfl) ?_
  refine pu_quo (by omega) (tdiv_i64 hx) ?_
  refine Cl.of memory_Memory_State_en (State_sp (x.1.tdiv 8) R hT H) ?_
  rintro _ w ⟨rfl, H⟩
  (with_reducible (repeat (first | refine pu_st ?_ | refine bn_st ?_)))
  exact ⟨rfl, H.tail⟩

theorem Check_sp {u : Value} (hE : E.length ≤ 1000000) (hD : ∀ x ∈ E, i64 x.1) (hu : SlR c u E.length ((E.map enC).flatten)) (R : MemR c m M lv ps mb es ck ev) (hT : TabC c) (H : Sat c Γ w) :
    Calls Tryd.prog 6 #[.pointer (some ⟨m, 0, none⟩), u] w (Rt (Yes c Γ (.int .i64 (checkM M E)))) := by
  refine redo_Check_ok ?_
  unfold redo_Check_w checkM
  refine bn_box (z := [.pointer (some ⟨m, 0, none⟩)]) rfl H fun b w H => ?_
  (with_reducible (repeat (first | refine pu_st ?_ | refine bn_st ?_)))
  obtain ⟨c1, A1, m1, H1, b1⟩ := H.lent
  have R1 : MemR c1 m M lv ps mb es ck ev := ⟨R.ok, R.busy, m1 _ R.top, m1 _ R.lines, m1 _ R.map, m1 _ R.evs, fun y hy => m1 _ (R.pend y hy)⟩
  have hT1 : TabC c1 := fun H => hT (b1 H)
  have hu1 : SlR c1 u E.length ((E.map enC).flatten) := fun H => hu (b1 H)
  refine Cl.of (by kernel_rfl) (ContainsEn_sp (first := #[]) (captured := #[.pointer (some ⟨b, 0, none⟩)]) (p := badA M) hE (by kernel_rfl) hu1 (fun x hx {Γ w} H => chk1_sp x (hD x hx) A1 R1 H) H1) ?_
  rintro _ w ⟨rfl, H1⟩
  refine condB (fun h => ?_) (fun h => ?_)
  · rw [if_pos h]; exact ⟨rfl, (b1 H1).tail⟩
  rw [if_neg (by simp [h])]
  refine Cl.of (by kernel_rfl) (ContainsEn_sp (first := #[]) (captured := #[]) (p := badV) hE (by kernel_rfl) hu1 (fun x hx {Γ w} H => chk2_sp x H) H1) ?_
  rintro _ w ⟨rfl, H1⟩
  refine condB (fun h => ?_) (fun h => ?_)
  · rw [if_pos h]; exact ⟨rfl, (b1 H1).tail⟩
  rw [if_neg (by simp [h])]
  (with_reducible (repeat (first | refine pu_st ?_ | refine bn_st ?_)))
  refine Cl.of (by kernel_rfl) (ContainsEn_sp (first := #[]) (captured := #[.pointer (some ⟨b, 0, none⟩)]) (p := badR M) hE (by kernel_rfl) hu1 (fun x hx {Γ w} H => chk3_sp x (hD x hx) A1 R1 hT1 H) H1) ?_
  rintro _ w ⟨rfl, H1⟩
  refine condB (fun h => ?_) (fun h => ?_)
  · rw [if_pos h]; exact ⟨rfl, (b1 H1).tail⟩
  · rw [if_neg (by simp [h])]; exact ⟨rfl, (b1 H1).tail⟩

theorem any_false_take {p : En → Bool} {i : Nat} {x : En} (h : (E.take i).any p = false) (hx : E[i]? = some x) (hp : p x = false) : (E.take (i + 1)).any p = false := by
  rw [take_succ_of hx, List.any_append, h]; simp [hp]

end

end Go.Proofs.YtlolaieolgmdnaaDoor
