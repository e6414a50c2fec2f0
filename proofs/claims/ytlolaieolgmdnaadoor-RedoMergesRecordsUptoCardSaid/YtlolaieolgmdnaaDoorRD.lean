/-
  Views: over a memory that is lent; their entries. The program's and the specification's.
-/
import Derived.Test.YtlolaieolgmdnaaDoorRC

import Derived.Test.YtlolaieolgmdnaaDoorPlainR

namespace Go.Proofs.YtlolaieolgmdnaaDoor

open Go.RowKit
set_option linter.unusedVariables false
set_option linter.unusedSimpArgs false
set_option maxRecDepth 10000

/-- A view at block b: its memory, its entries. -/
def VwH (ty : TypeId) (b m : Nat) (E : List En) : HProp := fun h => ∃ lv, stars [blk b [.pointer (some ⟨m, 0, none⟩), lv] ty, ownS 34 2 lv E.length ((E.map enC).flatten)] h

def hasV (n : Nat) (at' : Int) : Bool := decide (0 ≤ at' ∧ at'.tdiv 8 < n)
def setV (n : Nat) (E : List En) (at' v : Int) : Int × List En :=
  if hasV n at' = false then (40, E) else if v < 0 ∨ v > 1099511627775 then (1, E) else (0, E ++ [(at', v)])
def loadV (M : MemS) (E : List En) (at' : Int) : Int × Int := match lastE E at' with | some v => (v, 0) | none => loadM M.L at'

theorem slAt.take {w : World} {a : Option Addr} {n cap h k : Nat} {xs : List Value} (hs : slAt w (.slice a n cap) n xs) (hh : h ≤ n) (hk : h * k ≤ xs.length) : slAt w (.slice a h cap) h (xs.take (h * k)) := by
  obtain ⟨a', cap', e, hle, hn, hc⟩ := hs
  cases e
  refine ⟨a, cap, rfl, by omega, fun e => by have := hn e; omega, fun b o sp e => ?_⟩
  rcases hc b o sp e with h0 | ⟨rfl, h1⟩
  · exact .inl (by omega)
  · refine .inr ⟨rfl, fun j v hj => h1 j v ?_⟩
    rw [List.getElem?_take] at hj
    split at hj
    · exact hj
    · cases hj

theorem take_rows {α : Type} {enc : α → List Value} {k : Nat} (hk : ∀ x, (enc x).length = k) : ∀ (l : List α) (h : Nat), ((l.map enc).flatten).take (h * k) = ((l.take h).map enc).flatten
  | l, 0 => by simp
  | [], h + 1 => by simp
  | x :: l, h + 1 => by
    rw [List.map_cons, List.flatten_cons, List.take_succ_cons, List.map_cons, List.flatten_cons, ← take_rows hk l h, Nat.succ_mul, Nat.add_comm, List.take_append, hk]
    rw [List.take_of_length_le (by rw [hk]; omega), Nat.add_sub_cancel_left]

theorem enC_one (x : En) : ∀ v ∈ enC x, v.oneCell' = true := by simp [enC, Value.oneCell']

theorem lastE_hit {E : List En} {i : Nat} {x : En} {a : Int} (hx : E[i]? = some x) (he : x.1 = a) (ha : ∀ j y, i < j → E[j]? = some y → y.1 ≠ a) : lastE E a = some x.2 := by
  obtain ⟨hi, hxe⟩ := List.getElem?_eq_some_iff.1 hx
  have h1 : E = (E.take i ++ [x]) ++ E.drop (i + 1) := by
    rw [← hxe, List.take_append_getElem]
    exact (List.take_append_drop (i + 1) E).symm
  rw [h1]
  unfold lastE
  rw [List.reverse_append, List.find?_append, List.find?_eq_none.2 ?_]
  · rw [List.reverse_append, List.reverse_singleton, List.singleton_append, List.find?_cons, beq_iff_eq.2 he]; rfl
  · intro y hy
    obtain ⟨j, hj⟩ := List.mem_iff_getElem?.1 (List.mem_reverse.1 hy)
    rw [List.getElem?_drop] at hj
    simpa using ha _ y (by omega) hj

theorem lastE_no {E : List En} {a : Int} (ha : ∀ (j : Nat) (y : En), E[j]? = some y → y.1 ≠ a) : lastE E a = none := by
  unfold lastE
  rw [List.find?_eq_none.2 ?_]; rfl
  intro y hy
  obtain ⟨j, hj⟩ := List.mem_iff_getElem?.1 (List.mem_reverse.1 hy)
  simpa using ha _ y hj

section

variable {c : Cx} {Γ : List HProp} {w : World} {m v : Nat} {M : MemS} {lv ev : Value} {ps : List Value} {mb ck : Nat} {es : Array MapEntry} {E : List En} {ty : TypeId}

theorem Sat.openV (H : Sat c (VwH ty v m E :: Γ) w) : ∃ lv, Sat c (blk v [.pointer (some ⟨m, 0, none⟩), lv] ty :: ownS 34 2 lv E.length ((E.map enC).flatten) :: Γ) w := by
  obtain ⟨f, g, s, ⟨lv, h3⟩, hr⟩ := H.own
  exact ⟨lv, { H with own := stars_join (Γ := [_, _]) s h3 hr }⟩

theorem Sat.shutV (H : Sat c (blk v [.pointer (some ⟨m, 0, none⟩), lv] ty :: ownS 34 2 lv E.length ((E.map enC).flatten) :: Γ) w) : Sat c (VwH ty v m E :: Γ) w :=
  Sat.shut (Δ := [_, _]) H fun h hs => ⟨lv, hs⟩

theorem Over_sp (H : Sat c Γ w) : Calls Tryd.prog 8 #[.pointer (some ⟨m, 0, none⟩)] w (Rt fun u w' => ∃ v, u = .pointer (some ⟨v, 0, none⟩) ∧ Sat c (VwH 70 v m [] :: Γ) w') := by
  refine redo_Over_ok ?_
  unfold redo_Over_w
  refine pu_build (cs := [.pointer (some ⟨m, 0, none⟩)]) rfl ?_
  refine pu_build (cs := [.pointer (some ⟨m, 0, none⟩), .slice none 0 0]) rfl ?_
  refine bn_box rfl H fun v w H => ?_
  exact ⟨v, rfl, Sat.shutV ((Sat.nilS none H).get Has.n1)⟩

theorem M_sp (H : Sat c Γ w) : Calls Tryd.prog 29 #[.agg #[.pointer (some ⟨m, 0, none⟩)]] w (Rt (Yes c Γ (.pointer (some ⟨m, 0, none⟩)))) := by
  refine redo_base_M_ok ?_
  unfold redo_base_M_w
  refine bn_box (z := [.pointer (some ⟨m, 0, none⟩)]) rfl H fun b w H => ?_
  (with_reducible (repeat (first | refine pu_st ?_ | refine bn_st ?_)))
  (refine bn_load1 (Sat.cell H Has.n0 rfl) ?_; (with_reducible (repeat (first | refine pu_st ?_ | refine bn_st ?_))))
  exact ⟨rfl, H.tail⟩

theorem Size_sp (H : Sat c (VwH 70 v m E :: Γ) w) : Calls Tryd.prog 31 #[.pointer (some ⟨v, 0, none⟩)] w (Rt (Yes c (VwH 70 v m E :: Γ) (.int .i64 (E.length : Int)))) := by
  obtain ⟨lv, H⟩ := H.openV
  refine redo_View_Size_ok ?_
  unfold redo_View_Size_w
  (with_reducible (repeat (first | refine pu_st ?_ | refine bn_st ?_)))
  (refine bn_load1 (Sat.cell H Has.n0 rfl) ?_; (with_reducible (repeat (first | refine pu_st ?_ | refine bn_st ?_))))
  obtain ⟨a, cap, rfl, -⟩ := H.slAt Has.n1
  (with_reducible (repeat (first | refine pu_st ?_ | refine bn_st ?_)))
  exact ⟨rfl, H.shutV⟩

theorem hasA_sp (at' : Int) (hat : i64 at') (R : MemR c m M lv ps mb es ck ev) (H : Sat c Γ w) : Calls Tryd.prog 24 #[.pointer (some ⟨m, 0, none⟩), .int .i64 at'] w (Rt (Yes c Γ (.bool (hasV M.L.length at')))) := by
  refine redo_has_ok ?_
  unfold redo_has_w hasV
  (with_reducible (repeat (first | refine pu_st ?_ | refine bn_st ?_)))
  refine condD (fun h0 => ?_) (fun h0 => ?_)
  · refine pu_quo (by omega) (tdiv_i64 hat) ?_
    refine Cl.of memory_Memory_Lines_en (Lines_sp R H) ?_
    rintro _ w ⟨rfl, H⟩
    (with_reducible (repeat (first | refine pu_st ?_ | refine bn_st ?_)))
    exact ⟨by rw [Value.bool.injEq]; exact decide_eq_decide.2 (by omega), H⟩
  · exact ⟨by rw [Value.bool.injEq]; exact (decide_eq_false (by omega)).symm, H⟩

theorem Set_sp (at' n : Int) (hat : i64 at') (hE : E.length ≤ 1000000) (R : MemR c m M lv ps mb es ck ev) (H : Sat c (VwH 70 v m E :: Γ) w) :
    Calls Tryd.prog 10 #[.pointer (some ⟨v, 0, none⟩), .int .i64 at', .int .i64 n] w (Rt (Yes c (VwH 70 v m (setV M.L.length E at' n).2 :: Γ) (.int .i64 (setV M.L.length E at' n).1))) := by
  obtain ⟨ev', H⟩ := H.openV
  refine redo_View_Set_ok ?_
  unfold redo_View_Set_w setV
  (with_reducible (repeat (first | refine pu_st ?_ | refine bn_st ?_)))
  (refine bn_load1 (Sat.cell H Has.n0 rfl) ?_; (with_reducible (repeat (first | refine pu_st ?_ | refine bn_st ?_))))
  refine Cl.of redo_has_en (hasA_sp at' hat R H) ?_
  rintro _ w ⟨rfl, H⟩
  (with_reducible (repeat (first | refine pu_st ?_ | refine bn_st ?_)))
  refine condNB (fun h0 => ?_) (fun h0 => ?_)
  · rw [if_pos h0]
    exact ⟨rfl, H.shutV⟩
  rw [if_neg (by simp [h0])]
  (with_reducible (repeat (first | refine pu_st ?_ | refine bn_st ?_)))
  refine condD (fun h1 => ?_) (fun h1 => ?_)
  · rw [if_pos (.inl h1)]
    exact ⟨rfl, H.shutV⟩
  (with_reducible (repeat (first | refine pu_st ?_ | refine bn_st ?_)))
  refine condD (fun h2 => ?_) (fun h2 => ?_)
  · rw [if_pos (.inr h2)]
    exact ⟨rfl, H.shutV⟩
  rw [if_neg (by omega)]
  (with_reducible (repeat (first | refine pu_st ?_ | refine bn_st ?_)))
  (refine bn_load1 (Sat.cell H Has.n0 rfl) ?_; (with_reducible (repeat (first | refine pu_st ?_ | refine bn_st ?_))))
  refine pu_build (cs := enC (at', n)) (by kernel_rfl) ?_
  refine bn_one (cs := enC (at', n)) rfl (enC_len _) (by decide) H fun u w H => ?_
  refine bn_appendR H Has.n2 (H.slAt Has.n0) rfl (enC_one _) (by omega) (by unfold maxLen; omega) (by omega) fun lv' w H => ?_
  (with_reducible (repeat (first | refine pu_st ?_ | refine bn_st ?_)))
  refine bn_store1 H Has.n2 (by simp) ?_ fun w H => ?_
  · obtain ⟨a, cap, rfl, -⟩ := H.slAt Has.n0; rfl
  refine ⟨rfl, Sat.shutV (lv := lv') ?_⟩
  have := (H.get Has.n2).tail
  simpa using this

theorem Back_sp (n : Int) (H : Sat c (VwH 70 v m E :: Γ) w) :
    Calls Tryd.prog 30 #[.pointer (some ⟨v, 0, none⟩), .int .i64 n] w (Rt fun _ w' => Sat c (VwH 70 v m (E.take n.toNat) :: Γ) w') := by
  obtain ⟨ev', H⟩ := H.openV
  have hlen := rows_length enC 2 enC_len E
  obtain ⟨a, cap, rfl, hle, -⟩ := H.slAt Has.n1
  refine redo_View_Back_ok ?_
  unfold redo_View_Back_w
  (refine ⟨Sat _ _, Sat _ _, Sat.drew H, fun _ h => h, ?_⟩; (with_reducible (repeat (first | refine pu_st ?_ | refine bn_st ?_))))
  (refine ⟨_, fun w H => run_load1 (H.cell Has.n0 rfl), ?_⟩; (with_reducible (repeat (first | refine pu_st ?_ | refine bn_st ?_))))
  (refine ⟨_, fun w H => run_load1 (H.cell Has.n0 rfl), ?_⟩; (with_reducible (repeat (first | refine pu_st ?_ | refine bn_st ?_))))
  (refine ⟨_, fun w H => run_len _, ?_⟩; (with_reducible (repeat (first | refine pu_st ?_ | refine bn_st ?_))))
  refine pu_sliceH (by omega) (by omega) ?_
  (with_reducible (repeat (first | refine pu_st ?_ | refine bn_st ?_)))
  have e1 : (max 0 (min n (E.length : Int))).toNat = (E.take n.toNat).length := by rw [List.length_take]; omega
  rw [e1]
  (refine ⟨fun w H => ?_, trivial⟩; (with_reducible (repeat (first | refine pu_st ?_ | refine bn_st ?_))))
  refine bn_store1 H Has.n0 (by simp) rfl fun w H => ?_
  (refine ⟨Sat _ _, Sat _ _, H, fun _ h => h, (by first | trivial | exact fun _ h => h | exact fun _ h => h.tail | exact fun _ h => h.tail.tail), ?_⟩; (with_reducible (repeat (first | refine pu_st ?_ | refine bn_st ?_))))
  (intro w H; (with_reducible (repeat (first | refine pu_st ?_ | refine bn_st ?_))))
  refine Sat.shutV (lv := .slice a (E.take n.toNat).length cap) ?_
  obtain ⟨hl, h⟩ := (H.get Has.n1).openS
  have hcut : (E.map enC).flatten = ((E.take n.toNat).map enC).flatten ++ ((E.drop n.toNat).map enC).flatten := by
    rw [← List.flatten_append, ← List.map_append, List.take_append_drop]
  rcases h with ⟨a', e, h0, hxs, H⟩ | ⟨b, cap', sp, e, h1, h2, H⟩
  · have hE : E = [] := List.eq_nil_of_length_eq_zero h0
    subst hE
    cases e
    have := (Sat.nilS (e := 34) (sz := 2) a H).get Has.n1
    simpa using this
  · cases e
    rw [hcut, List.append_assoc] at H h2
    exact (H.shutS (rows_length enC 2 enC_len _) (by rw [List.length_take]; omega) h2).get Has.n1

end

end Go.Proofs.YtlolaieolgmdnaaDoor
