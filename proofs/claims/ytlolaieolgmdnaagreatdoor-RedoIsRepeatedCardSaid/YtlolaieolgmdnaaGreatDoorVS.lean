/-
  What the walks of the laws share.
-/
import Derived.Test.YtlolaieolgmdnaaGreatDoorRI
import Derived.Test.YtlolaieolgmdnaaGreatDoorMZ
namespace Go.Proofs.YtlolaieolgmdnaaGreatDoor
open Go.RowKit
set_option linter.unusedVariables false
set_option linter.unusedSimpArgs false
set_option maxRecDepth 10000

section
variable {c : Cx} {Γ Δ Ω : List HProp} {w : World} {m r : Nat} {M : MemS} {lv ev : Value} {ps : List Value} {mb ck : Nat} {es : Array MapEntry} {E S : List En}

theorem few_sp {t : Value} (ht : SlR c t E.length ((E.map enC).flatten)) (H : Sat c Γ w) :
    Calls Tryz.prog 24 #[t] w (Rt (Yes c Γ (.bool (decide (E.length ≤ 60))))) := by
  refine alumlaw10_few_ok ?_
  unfold alumlaw10_few_w
  obtain ⟨ta, tcap, rfl, -⟩ := ht H
  (with_reducible (repeat (first | refine pu_st ?_ | refine bn_st ?_)))
  refine ⟨?_, H⟩
  congr 1
  simp
  omega

theorem slR_none  : SlR c (.slice none 0 0) 0 [] := fun H => ⟨none, 0, rfl, Nat.le_refl _, fun _ => rfl, fun b o sp h => .inl rfl⟩

theorem lines_mem {k : Int} (h : k ∈ linesE E) : ∃ x ∈ E, x.1.tdiv 8 = k := by
  unfold linesE at h
  rw [compact_is, lnF_mem, List.mem_mergeSort, List.mem_map] at h
  exact h

theorem ok_crash {M : MemS} (h : M.ok) : (crashM M []).ok := ⟨by simp [crashM, cutsL]; exact h.lines, fun y hy => by
  obtain ⟨z, hz, rfl⟩ := List.mem_map.1 hy
  exact ⟨fun s hs => (by cases hs), by simp [dropM], by simp [dropM], by simp [dropM]⟩, by simp [crashM]⟩

theorem right_line {l : List Im} (hr : rightI l = true) {x : Im} (hx : x ∈ l) : validB x.1 x.2 = true := by
  unfold rightI at hr
  rw [Bool.and_eq_true] at hr
  exact List.all_eq_true.1 hr.2 x hx

theorem SameImOwn_sp {u u' : Value} {L : List LineS} (ha : L.length ≤ 1000000) (H : Sat c (ownS 82 9 u L.length ((L.map imC).flatten) :: ownS 82 9 u' L.length ((L.map imC).flatten) :: Γ) w) :
    Calls Tryz.prog 21 #[u, u'] w (Rt (Yes c Γ (.bool true))) := by
  have e : L.map imC = (L.map imOf).map imgC := by rw [List.map_map]; rfl
  have el : L.length = (L.map imOf).length := by simp
  rw [e, el] at H
  obtain ⟨c1, A1, m1, H1, b1⟩ := H.lent
  obtain ⟨c2, A2, m2, H2, b2⟩ := H1.lent
  refine (SameImage_sp (by simpa using ha) (m2 _ A1).slR A2.slR H2).mono ?_
  rintro e w' ⟨x, rfl, hx, H3⟩
  refine ⟨x, rfl, ?_, (b1 (b2 H3)).tail.tail⟩
  rw [hx]; simp

theorem SameSeenOwn_sp {u u' : Value} {L L' : List LineS} (hs : L.map seenC = L'.map seenC) (hw : True) (ha : L.length ≤ 1000000) (H : Sat c (ownS 80 8 u L.length ((L.map seenC).flatten) :: ownS 80 8 u' L'.length ((L'.map seenC).flatten) :: Γ) w) :
    Calls Tryz.prog 31 #[u, u'] w (Rt (Yes c Γ (.bool true))) := by
  have e : L.map seenC = (L.map fun y => (showL y.x y.c y.p).1).map w8C := by rw [List.map_map]; rfl
  have e' := hs ▸ e
  have el : L.length = (L.map fun y => (showL y.x y.c y.p).1).length := by simp
  have el' : L'.length = L.length := by have := congrArg List.length hs; simpa using this.symm
  rw [el', ← hs, e, el] at H
  obtain ⟨c1, A1, m1, H1, b1⟩ := H.lent
  obtain ⟨c2, A2, m2, H2, b2⟩ := H1.lent
  refine (SameSeen_sp (by simpa using ha) (m2 _ A1).slR A2.slR H2).mono ?_
  rintro e w' ⟨x, rfl, hx, H3⟩
  refine ⟨x, rfl, ?_, (b1 (b2 H3)).tail.tail⟩
  rw [hx]; simp

end
end Go.Proofs.YtlolaieolgmdnaaGreatDoor
