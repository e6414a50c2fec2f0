/-
  What the walks of the laws share.
-/
import Derived.Test.YtlolaieolgmdnaaDoorRI

import Derived.Test.YtlolaieolgmdnaaDoorMZ

namespace Go.Proofs.YtlolaieolgmdnaaDoor

open Go.RowKit
set_option linter.unusedVariables false
set_option linter.unusedSimpArgs false
set_option maxRecDepth 10000

section

variable {c : Cx} {Γ Δ Ω : List HProp} {w : World} {m r : Nat} {M : MemS} {lv ev : Value} {ps : List Value} {mb ck : Nat} {es : Array MapEntry} {E S : List En}

theorem slR_none  : SlR c (.slice none 0 0) 0 [] := fun H => ⟨none, 0, rfl, Nat.le_refl _, fun _ => rfl, fun b o sp h => .inl rfl⟩

theorem lines_mem {k : Int} (h : k ∈ linesE E) : ∃ x ∈ E, x.1.tdiv 8 = k := by
  unfold linesE at h
  rw [compact_is, lnF_mem, List.mem_mergeSort, List.mem_map] at h
  exact h

theorem ok_crash {M : MemS} (h : M.ok) : (crashM M []).ok := ⟨by simp [crashM, cutsL]; exact h.lines, fun y hy => by
  obtain ⟨z, hz, rfl⟩ := List.mem_map.1 hy
  exact ⟨fun s hs => (by cases hs), by simp [dropM], by simp [dropM], by simp [dropM]⟩, by simp [crashM]⟩

theorem right_line {l : List Im} (hr : rightI l = true) {x : Im} (hx : x ∈ l) : validB x.1 x.2 = true := by
  unfold rightI at hr
  rw [Bool.and_eq_true] at hr
  exact List.all_eq_true.1 hr.2 x hx

theorem SameSeenOwn_sp {u u' : Value} {L L' : List LineS} (hs : L.map seenC = L'.map seenC) (hw : True) (ha : L.length ≤ 1000000) (H : Sat c (ownS 51 8 u L.length ((L.map seenC).flatten) :: ownS 51 8 u' L'.length ((L'.map seenC).flatten) :: Γ) w) :
    Calls Tryd.prog 18 #[u, u'] w (Rt (Yes c Γ (.bool true))) := by
  have e : L.map seenC = (L.map fun y => (showL y.x y.c y.p).1).map w8C := by rw [List.map_map]; rfl
  have e' := hs ▸ e
  have el : L.length = (L.map fun y => (showL y.x y.c y.p).1).length := by simp
  have el' : L'.length = L.length := by have := congrArg List.length hs; simpa using this.symm
  rw [el', ← hs, e, el] at H
  obtain ⟨c1, A1, m1, H1, b1⟩ := H.lent
  obtain ⟨c2, A2, m2, H2, b2⟩ := H1.lent
  refine (SameSeen_sp (by simpa using ha) (m2 _ A1).slR A2.slR H2).mono ?_
  rintro e w' ⟨x, rfl, hx, H3⟩
  refine ⟨x, rfl, ?_, (b1 (b2 H3)).tail.tail⟩
  rw [hx]; simp

end

end Go.Proofs.YtlolaieolgmdnaaDoor
