/-
  Apply in both; lines by both roads; good lines; loads behind stores; Crash with right cuts; what Apply leaves.
-/
import Derived.Test.YtlolaieolgmdnaaDoorMK

import Derived.Test.YtlolaieolgmdnaaDoorGb

section

namespace Go.Proofs.YtlolaieolgmdnaaDoor

open Go.RowKit
set_option linter.unusedVariables false
set_option linter.unusedSimpArgs false
set_option maxRecDepth 10000

/-- What is asked of a memory's data, by a bound of its lists. -/
structure MemS.okN (M : MemS) (N : Nat) : Prop where
  lines : M.L.length ≤ 4096
  line : ∀ y ∈ M.L, (∀ s ∈ y.p, 0 ≤ s.1 ∧ s.1 < 8) ∧ y.p.length ≤ N ∧ 0 ≤ y.mark ∧ y.mark ≤ y.p.length
  evs : M.ev.length ≤ N

theorem MemS.okN.ok {M : MemS} {N : Nat} (h : M.okN N) (hN : N ≤ 1000000) : M.ok :=
  ⟨h.lines, fun y hy => by obtain ⟨h1, h2, h3, h4⟩ := h.line y hy; exact ⟨h1, by omega, h3, h4⟩, by have := h.evs; omega⟩
theorem MemS.okN.mono {M : MemS} {N N' : Nat} (h : M.okN N) (hN : N ≤ N') : M.okN N' :=
  ⟨h.lines, fun y hy => by obtain ⟨h1, h2, h3, h4⟩ := h.line y hy; exact ⟨h1, by omega, h3, h4⟩, by have := h.evs; omega⟩

theorem mem_set_line {L : List LineS} {n : Nat} {y z : LineS} (h : z ∈ L.set n y) : z ∈ L ∨ z = y := by
  rcases List.mem_or_eq_of_mem_set h with h | h
  · exact .inl h
  · exact .inr h

theorem MemS.okN.put {M : MemS} {N : Nat} (h : M.okN N) (k a v : Int) : (putM M k a v).2.okN (N + 1) := by
  unfold putM
  split
  · exact h.mono (Nat.le_succ _)
  split
  · exact h.mono (Nat.le_succ _)
  rename_i y hy
  split
  · exact h.mono (Nat.le_succ _)
  split
  · exact h.mono (Nat.le_succ _)
  refine ⟨by simp; exact h.lines, fun z hz => ?_, by simp; exact h.evs⟩
  rcases mem_set_line hz with hz | rfl
  · obtain ⟨h1, h2, h3, h4⟩ := h.line z hz; exact ⟨h1, by omega, h3, h4⟩
  · obtain ⟨h1, h2, h3, h4⟩ := h.line y (List.mem_of_getElem? hy)
    refine ⟨fun s hs => ?_, by simp; omega, h3, by simp; omega⟩
    rcases List.mem_append.1 hs with hs | hs
    · exact h1 s hs
    · rw [List.mem_singleton] at hs; subst hs; simp; omega

theorem MemS.okN.flush {M : MemS} {N : Nat} (h : M.okN N) (k : Int) : (flushM M k).2.okN (N + 1) := by
  unfold flushM
  split
  · exact h.mono (Nat.le_succ _)
  split
  · exact h.mono (Nat.le_succ _)
  rename_i y hy
  refine ⟨by simp; exact h.lines, fun z hz => ?_, by simp; exact h.evs⟩
  rcases mem_set_line hz with hz | rfl
  · obtain ⟨h1, h2, h3, h4⟩ := h.line z hz; exact ⟨h1, by omega, h3, h4⟩
  · obtain ⟨h1, h2, h3, h4⟩ := h.line y (List.mem_of_getElem? hy)
    exact ⟨h1, by simp; omega, by simp, by simp⟩

theorem settleM_p (y : LineS) : (settleM y).p = y.p.drop y.mark.toNat := by
  unfold settleM settleL
  split
  · rename_i h; rw [h]; rfl
  · rfl

theorem MemS.okN.fence {M : MemS} {N : Nat} (h : M.okN N) : (fenceM M).okN (N + 1) := by
  refine ⟨by simp [fenceM]; exact h.lines, fun z hz => ?_, by simp [fenceM]; exact h.evs⟩
  obtain ⟨y, hy, rfl⟩ := List.mem_map.1 hz
  obtain ⟨h1, h2, h3, h4⟩ := h.line y hy
  refine ⟨fun s hs => ?_, ?_, ?_, ?_⟩
  · rw [settleM_p] at hs; exact h1 s (List.mem_of_mem_drop hs)
  · rw [settleM_p, List.length_drop]; omega
  · unfold settleM settleL; split
    · exact h3
    · show 0 ≤ max 0 _; omega
  · rw [settleM_p, List.length_drop]
    unfold settleM settleL; split
    · rename_i h0; omega
    · show max 0 _ ≤ _; omega

theorem storesM_snoc (M : MemS) (E : List En) (x : En) : storesM M (E ++ [x]) = (putM (storesM M E) 1 x.1 x.2).2 := by unfold storesM; rw [List.foldl_append]; rfl
theorem flushesM_snoc (M : MemS) (ks : List Int) (k : Int) : flushesM M (ks ++ [k]) = (flushM (flushesM M ks) k).2 := by unfold flushesM; rw [List.foldl_append]; rfl

theorem MemS.okN.stores {M : MemS} : ∀ (E : List En) {N : Nat}, M.okN N → (storesM M E).okN (N + E.length)
  | E, N, h => by
    unfold storesM
    induction E generalizing M N with
    | nil => exact h
    | cons x E ih =>
      have := ih (N + 1) (h.put 1 x.1 x.2)
      rw [List.length_cons, show N + (E.length + 1) = N + 1 + E.length by omega]; exact this
theorem MemS.okN.flushes {M : MemS} : ∀ (ks : List Int) {N : Nat}, M.okN N → (flushesM M ks).okN (N + ks.length)
  | ks, N, h => by
    unfold flushesM
    induction ks generalizing M N with
    | nil => exact h
    | cons x ks ih =>
      have := ih (N + 1) (h.flush x)
      rw [List.length_cons, show N + (ks.length + 1) = N + 1 + ks.length by omega]; exact this

theorem linesE_len (E : List En) : (linesE E).length ≤ E.length := by
  unfold linesE
  have := compact_len ((E.map fun x => x.1.tdiv 8).mergeSort fun x y => decide (x ≤ y))
  simpa using this

theorem MemS.okN.apply {M : MemS} {N : Nat} (h : M.okN N) (E : List En) : (applyM M E).2.okN (N + 2 * E.length + 1) := by
  unfold applyM
  split
  · have h1 := ((h.stores E).flushes (linesE E)).fence
    exact h1.mono (by have := linesE_len E; omega)
  · exact h.mono (by omega)

section

variable {c : Cx} {Γ Δ Ω : List HProp} {w : World} {m r : Nat} {M : MemS} {lv ev : Value} {ps : List Value} {mb ck : Nat} {es : Array MapEntry} {E : List En}

theorem Apply_sp {u : Value} {N : Nat} (hN : M.okN N) (hb : N + 2 * E.length ≤ 1000000) (hD : ∀ x ∈ E, i64 x.1) (hu : SlR c u E.length ((E.map enC).flatten)) (hT : TabC c) (H : Sat c (MemH m M :: Γ) w) :
    Calls Tryd.prog 11 #[.pointer (some ⟨m, 0, none⟩), u] w (Rt fun v w' => v = .int .i64 (applyM M E).1 ∧ Sat c (MemH m (applyM M E).2 :: Γ) w') := by
  refine redo_Apply_ok ?_
  unfold redo_Apply_w
  obtain ⟨ad, cap, hue, -⟩ := hu H
  obtain ⟨mb, es, ck, H⟩ := H.nameM
  obtain ⟨c1, lv, ps, ev, R, hT1, m1, H1, back⟩ := H.lentM hT
  refine Cl.of redo_Check_en (Check_sp (by omega) hD (fun H => hu (back H)) R hT1 H1) ?_
  rintro _ w ⟨rfl, H1⟩
  have H := (back H1).hideM
  unfold applyM
  (with_reducible (repeat (first | refine pu_st ?_ | refine bn_st ?_)))
  refine condND (fun h => ?_) (fun h => ?_)
  · rw [if_neg h]; exact ⟨rfl, H⟩
  rw [if_pos h]
  subst hue
  (with_reducible (repeat (first | refine pu_st ?_ | refine bn_st ?_)))
  refine ⟨fun v w => ∃ i : Nat, i ≤ E.length ∧ v = .int .i64 (i : Int) ∧ Sat c (MemH m (storesM M (E.take i)) :: Γ) w, fun v _ => E.length - (intOf v).toNat, ⟨0, Nat.zero_le _, rfl, H⟩, ?_⟩
  intros
  rename_i w hI
  obtain ⟨i, hi, rfl, H⟩ := hI
  (with_reducible (repeat (first | refine pu_st ?_ | refine bn_st ?_)))
  refine condD (fun hlt => ?_) (fun hlt => ?_)
  · have hlt : i < E.length := by omega
    obtain ⟨x, hx⟩ : ∃ x, E[i]? = some x := ⟨E[i]'(by omega), List.getElem?_eq_getElem _⟩
    obtain ⟨b1, o1, cap1, e, hc⟩ := hu.en H hx
    cases e
    refine pu_indexN hlt ?_
    refine bn_loadN (hc H) rfl ?_
    refine bn_alloc H fun b5 w H => ?_
    refine bn_storeN (vs := enC x) H Has.n0 rfl (by simp [enC]) (enC_one x) fun w H => ?_
    have H := H.get Has.n0
    (with_reducible (repeat (first | refine pu_st ?_ | refine bn_st ?_)))
    refine bn_load1 (H.cell (cs := enC x) (t := 34) Has.n0 rfl) ?_
    (with_reducible (repeat (first | refine pu_st ?_ | refine bn_st ?_)))
    refine bn_load1 (H.cell (cs := enC x) (t := 34) Has.n0 rfl) ?_
    have hok := (hN.stores (E.take i)).ok (by rw [List.length_take]; omega)
    refine Cl.of memory_Memory_Store_en (Store_sp x.1 x.2 (hD x (List.mem_of_getElem? hx)) (fun y hy => (hok.line y hy).few) hok.evs hT (H.get Has.n1)) ?_
    rintro _ w ⟨-, H⟩
    refine pu_succ (by omega) ?_
    refine ⟨⟨i + 1, by omega, rfl, ?_⟩, by simp [intOf]; omega⟩
    rw [take_succ_of hx, storesM_snoc]
    exact ((H.get Has.n1).tail)
  have : i = E.length := by omega
  subst this
  rw [List.take_length] at H
  refine Cl.of redo_Lines_en (LinesE_sp (by omega) hD hu H) ?_
  rintro kv w H
  obtain ⟨ak, capk, rfl, -⟩ := H.slAt Has.n0
  have hll := linesE_len E
  (with_reducible (repeat (first | refine pu_st ?_ | refine bn_st ?_)))
  refine ⟨fun v w => ∃ i : Nat, i ≤ (linesE E).length ∧ v = .int .i64 (i : Int) ∧ Sat c (MemH m (flushesM (storesM M E) ((linesE E).take i)) :: ownS 3 1 (.slice ak (linesE E).length capk) (linesE E).length (((linesE E).map intC).flatten) :: Γ) w, fun v _ => (linesE E).length - (intOf v).toNat, ⟨0, Nat.zero_le _, rfl, H.get Has.n1⟩, ?_⟩
  intros
  rename_i w hI
  obtain ⟨i, hi, rfl, H⟩ := hI
  (with_reducible (repeat (first | refine pu_st ?_ | refine bn_st ?_)))
  refine condD (fun hlt => ?_) (fun hlt => ?_)
  · have hlt : i < (linesE E).length := by omega
    obtain ⟨k, hk⟩ : ∃ k, (linesE E)[i]? = some k := ⟨(linesE E)[i]'(by omega), List.getElem?_eq_getElem _⟩
    obtain ⟨b1, o1, cap1, e, -, hc⟩ := slAt.elem (enc := intC) (fun _ => rfl) (H.slAt Has.n1) hk
    cases e
    refine pu_indexN hlt ?_
    refine bn_load1 (hc 0 _ rfl) ?_
    have hok := ((hN.stores E).flushes ((linesE E).take i)).ok (by rw [List.length_take]; omega)
    obtain ⟨mb, es, ck, H⟩ := H.nameM
    refine Cl.of memory_Memory_Flush_en (Flush_sp k hok.evs hT H) ?_
    rintro _ w ⟨-, H⟩
    refine pu_succ (by omega) ?_
    refine ⟨⟨i + 1, by omega, rfl, ?_⟩, by simp [intOf]; omega⟩
    rw [take_succ_of hk, flushesM_snoc]
    exact H.hideM
  · have : i = (linesE E).length := by omega
    subst this
    rw [List.take_length] at H
    have hok := ((hN.stores E).flushes (linesE E)).ok (by omega)
    obtain ⟨mb, es, ck, H⟩ := H.nameM
    refine Cl.of memory_Memory_Fence_en (Fence_sp hok hT H) ?_
    rintro _ w H
    exact ⟨rfl, ((H.get Has.n1).tail)⟩

end

end Go.Proofs.YtlolaieolgmdnaaDoor

end

section

namespace Go.Proofs.YtlolaieolgmdnaaDoor

open Go.RowKit
set_option linter.unusedVariables false
set_option linter.unusedSimpArgs false
set_option maxRecDepth 10000

/-- The lines of merged entries, each run once. -/
def lnStep (out : List Int) (k : Int) : List Int := if out.getLast? = some k then out else out ++ [k]
def linesR (E : List En) : List Int := (mergedE E).foldl (fun out x => lnStep out (x.1.tdiv 8)) []

section

variable {c : Cx} {Γ Δ Ω : List HProp} {w : World} {m r : Nat} {M : MemS} {lv ev : Value} {ps : List Value} {mb ck : Nat} {es : Array MapEntry} {E : List En}

theorem lnStep_len (out : List Int) (k : Int) : (lnStep out k).length ≤ out.length + 1 := by
  unfold lnStep; split <;> simp

theorem linesR_take_len (L : List En) (i : Nat) : ((L.take i).foldl (fun out x => lnStep out (x.1.tdiv 8)) []).length ≤ i := by
  induction i with
  | zero => simp
  | succ i ih =>
    by_cases h : i < L.length
    · rw [take_succ_of (List.getElem?_eq_getElem h), List.foldl_append]
      have := lnStep_len ((L.take i).foldl (fun out x => lnStep out (x.1.tdiv 8)) []) ((L[i]'h).1.tdiv 8)
      simp only [List.foldl_cons, List.foldl_nil]
      omega
    · rw [List.take_of_length_le (by omega)]; rw [List.take_of_length_le (by omega)] at ih; omega

end

end Go.Proofs.YtlolaieolgmdnaaDoor

end

section

namespace Go.Proofs.YtlolaieolgmdnaaDoor

open Go.RowKit
set_option linter.unusedVariables false
set_option linter.unusedSimpArgs false
set_option maxRecDepth 10000

def MemS.sound (M : MemS) : Prop := ∀ y ∈ M.L, y.sound

theorem MemS.sound.put {M : MemS} (h : M.sound) (k a v : Int) : (putM M k a v).2.sound := by
  unfold putM
  split
  · exact h
  split
  · exact h
  rename_i y hy
  split
  · exact h
  split
  · exact h
  rename_i h2
  intro z hz
  rcases mem_set_line hz with hz | rfl
  · exact h z hz
  · intro _
    exact (fix_chk _ _).2 h2

theorem MemS.sound.flush {M : MemS} (h : M.sound) (k : Int) : (flushM M k).2.sound := by
  unfold flushM
  split
  · exact h
  split
  · exact h
  rename_i y hy
  intro z hz
  rcases mem_set_line hz with hz | rfl
  · exact h z hz
  · exact h y (List.mem_of_getElem? hy)

theorem MemS.sound.stores {M : MemS} : ∀ (E : List En), M.sound → (storesM M E).sound
  | E, h => by
    unfold storesM
    induction E generalizing M with
    | nil => exact h
    | cons x E ih => exact ih (h.put 1 x.1 x.2)
theorem MemS.sound.flushes {M : MemS} : ∀ (ks : List Int), M.sound → (flushesM M ks).sound
  | ks, h => by
    unfold flushesM
    induction ks generalizing M with
    | nil => exact h
    | cons x ks ih => exact ih (h.flush x)

def applyR (M : MemS) (E : List En) : Int × MemS := if checkM M E = 0 then (0, fenceM (flushesM (storesM M E) (linesR E))) else (checkM M E, M)

theorem linesR_len (E : List En) : (linesR E).length ≤ E.length := by
  have h1 := linesR_take_len (mergedE E) (mergedE E).length
  have h2 := mergedE_len E
  rw [List.take_length] at h1
  unfold linesR
  exact Nat.le_trans h1 h2

section

variable {c : Cx} {Γ Δ Ω : List HProp} {w : World} {m r : Nat} {M : MemS} {lv ev : Value} {ps : List Value} {mb ck : Nat} {es : Array MapEntry} {E : List En}

end

end Go.Proofs.YtlolaieolgmdnaaDoor

end

section

namespace Go.Proofs.YtlolaieolgmdnaaDoor
set_option linter.unusedVariables false
set_option linter.unusedSimpArgs false

def lnF (l : List Int) : List Int := l.foldl lnStep []
theorem lnF_snoc (l : List Int) (k : Int) : lnF (l ++ [k]) = lnStep (lnF l) k := by unfold lnF; rw [List.foldl_append]; rfl
theorem lnStep_last (out : List Int) (k : Int) : (lnStep out k).getLast? = some k := by
  unfold lnStep
  split
  · assumption
  · simp
theorem snoc_ind {α : Type} {P : List α → Prop} (l : List α) (h0 : P []) (h1 : ∀ l x, P l → P (l ++ [x])) : P l := by
  suffices h : ∀ r : List α, P r.reverse by simpa using h l.reverse
  intro r
  induction r with
  | nil => exact h0
  | cons x r ih => rw [List.reverse_cons]; exact h1 _ _ ih

theorem lnF_mem (l : List Int) : ∀ z, z ∈ lnF l ↔ z ∈ l := by
  refine snoc_ind (P := fun l => ∀ z, z ∈ lnF l ↔ z ∈ l) l (fun z => Iff.rfl) fun l x ih z => ?_
  rw [lnF_snoc]
  unfold lnStep
  split
  · rename_i h
    have hx : x ∈ l := (ih x).1 (List.mem_of_getLast? h)
    rw [ih z, List.mem_append, List.mem_singleton]
    exact ⟨.inl, fun h => h.elim id fun e => e ▸ hx⟩
  · rw [List.mem_append, List.mem_append, ih z]

theorem lnF_asc (l : List Int) : l.Pairwise (· ≤ ·) → (lnF l).Pairwise (· < ·) := by
  refine snoc_ind (P := fun l => l.Pairwise (· ≤ ·) → (lnF l).Pairwise (· < ·)) l (fun _ => List.Pairwise.nil) fun l x ih h => ?_
  obtain ⟨h1, -, h2⟩ := List.pairwise_append.1 h
  have hi := ih h1
  have hm := lnF_mem l
  rw [lnF_snoc]
  unfold lnStep
  generalize lnF l = o at hi hm
  split
  · exact hi
  rename_i hne
  refine List.pairwise_append.2 ⟨hi, by simp, fun a ha b hb => ?_⟩
  rw [List.mem_singleton] at hb
  subst hb
  have hle : ∀ a ∈ o, a ≤ b := fun a ha => h2 a ((hm a).1 ha) b (by simp)
  rcases List.eq_nil_or_concat o with rfl | ⟨o', z, rfl⟩
  · cases ha
  rw [List.concat_eq_append] at *
  have hz : z ≤ b := hle z (by simp)
  have hzb : z ≠ b := fun e => hne (by simp [e])
  rcases List.mem_append.1 ha with ha | ha
  · have := (List.pairwise_append.1 hi).2.2 a ha z (by simp); omega
  · rw [List.mem_singleton] at ha; omega

theorem compact_lnF (l : List Int) : ∀ m, m ≤ l.length → Lib.compactUpTo l.toArray m = lnF (l.take m)
  | 0, _ => by simp [Lib.compactUpTo, lnF]
  | m + 1, h => by
    have ih := compact_lnF l m (by omega)
    have hx : l[m]? = some (l[m]'(by omega)) := List.getElem?_eq_getElem _
    rw [Lib.compactUpTo_succ, ih, take_succ_of hx, lnF_snoc]
    have hg : l.toArray[m]! = l[m]'(by omega) := by rw [getElem!_pos l.toArray m (by simp; omega)]; simp
    unfold lnStep Lib.keeps
    rw [hg]
    by_cases h0 : m = 0
    · subst h0; simp [lnF]
    · have hp : l[m - 1]? = some (l[m - 1]'(by omega)) := List.getElem?_eq_getElem _
      have hg1 : l.toArray[m - 1]! = l[m - 1]'(by omega) := by rw [getElem!_pos l.toArray (m - 1) (by simp; omega)]; simp
      have hl : (lnF (l.take m)).getLast? = some (l[m - 1]'(by omega)) := by
        have : l.take m = l.take (m - 1) ++ [l[m - 1]'(by omega)] := by
          rw [← take_succ_of hp, show m - 1 + 1 = m by omega]
        rw [this, lnF_snoc, lnStep_last]
      rw [hl, hg1]
      by_cases he : l[m]'(by omega) = l[m - 1]'(by omega)
      · rw [if_neg (by rw [he]; simp [h0]), if_pos (by rw [he]), List.append_nil]
      · rw [if_pos (by simp [h0, he]), if_neg (by intro h; injection h with h; exact he h.symm)]

theorem compact_is (l : List Int) : Lib.compact l = lnF l := by
  unfold Lib.compact; rw [compact_lnF l _ (Nat.le_refl _), List.take_length]

theorem asc_int : ∀ (l m : List Int), l.Pairwise (· < ·) → m.Pairwise (· < ·) → (∀ z, z ∈ l ↔ z ∈ m) → l = m
  | [], [], _, _, _ => rfl
  | [], y :: m, _, _, h => absurd ((h y).2 (by simp)) (by simp)
  | x :: l, [], _, _, h => absurd ((h x).1 (by simp)) (by simp)
  | x :: l, y :: m, hl, hm, h => by
    obtain ⟨l1, l2⟩ := List.pairwise_cons.1 hl
    obtain ⟨m1, m2⟩ := List.pairwise_cons.1 hm
    have hxy : x = y := by
      rcases List.mem_cons.1 ((h x).1 (by simp)) with e | e
      · exact e
      · rcases List.mem_cons.1 ((h y).2 (by simp)) with f | f
        · exact f.symm
        · have a := m1 x e; have b := l1 y f; omega
    subst hxy
    rw [asc_int l m l2 m2 (fun z => ?_)]
    constructor
    · intro hz
      rcases List.mem_cons.1 ((h z).1 (by simp [hz])) with e | e
      · have := l1 z hz; omega
      · exact e
    · intro hz
      rcases List.mem_cons.1 ((h z).2 (by simp [hz])) with e | e
      · have := m1 z hz; omega
      · exact e

theorem lastE_some {E : List Ent} {x : Ent} (h : x ∈ E) : ∃ v, lastE E x.1 = some v := by
  unfold lastE
  cases hf : E.reverse.find? (fun y => y.1 == x.1) with
  | some y => exact ⟨_, rfl⟩
  | none => exact absurd (List.find?_eq_none.1 hf x (List.mem_reverse.2 h)) (by simp)
theorem lastE_mem {E : List Ent} {a v : Int} (h : lastE E a = some v) : (a, v) ∈ E := by
  unfold lastE at h
  cases hf : E.reverse.find? (fun y => y.1 == a) with
  | none => rw [hf] at h; cases h
  | some y =>
    rw [hf] at h
    have h4 := List.find?_some hf
    have h5 := List.mem_of_find?_eq_some hf
    rw [beq_iff_eq] at h4
    obtain ⟨y1, y2⟩ := y
    simp at h h4
    subst h4 h
    exact List.mem_reverse.1 h5

theorem linesR_lnF (E : List Ent) : linesR E = lnF ((mergedE E).map fun x => x.1.tdiv 8) := by
  unfold linesR lnF; rw [List.foldl_map]

theorem lines_same (E : List Ent) : linesR E = linesE E := by
  rw [linesR_lnF]
  unfold linesE
  rw [compact_is]
  have hs : ((E.map fun x => x.1.tdiv 8).mergeSort fun x y => decide (x ≤ y)).Pairwise (· ≤ ·) := by
    have := List.pairwise_mergeSort (le := fun x y : Int => decide (x ≤ y)) (fun a b c h1 h2 => by simp at *; omega) (fun a b => by simp; omega) (E.map fun x => x.1.tdiv 8)
    exact this.imp fun h => by simpa using h
  refine asc_int _ _ (lnF_asc _ ?_) (lnF_asc _ hs) fun z => ?_
  · rw [List.pairwise_map]
    exact (mergedE_is E).1.imp fun {a b} h => Int.tdiv_le_tdiv (by decide) (by omega)
  rw [lnF_mem, lnF_mem, List.mem_mergeSort, List.mem_map, List.mem_map]
  constructor
  · rintro ⟨x, hx, rfl⟩
    exact ⟨x, lastE_mem (((mergedE_is E).2 x.1 x.2).1 hx), rfl⟩
  · rintro ⟨x, hx, rfl⟩
    obtain ⟨v, hv⟩ := lastE_some hx
    exact ⟨(x.1, v), ((mergedE_is E).2 _ _).2 hv, rfl⟩

theorem apply_same (M : MemS) (E : List Ent) : applyR M E = applyM M E := by
  unfold applyR applyM; rw [lines_same]

end Go.Proofs.YtlolaieolgmdnaaDoor

end

section

namespace Go.Proofs.YtlolaieolgmdnaaDoor
set_option linter.unusedVariables false
set_option linter.unusedSimpArgs false

def StOk (S : List St) : Prop := ∀ s ∈ S, (0 ≤ s.1 ∧ s.1 < 8) ∧ okW s.2 = true

structure LineS.good (y : LineS) : Prop where
  valid : validB y.x y.c = true
  sd : y.sound
  p : StOk y.p

theorem showW_ok : ∀ (S : List St) (l : W8), validB l 0 = true → StOk S → validB (showW l S) 0 = true
  | [], l, h, _ => h
  | s :: S, l, h, hS => by
    have h1 := hS s (by simp)
    refine showW_ok S (l.set s.1.toNat s.2) (validB_iff.2 ⟨fun k hk => ?_, by omega, by omega⟩) fun z hz => hS z (by simp [hz])
    rw [W8.get_set _ _ _ _ (by omega)]
    split
    · exact okW_iff.1 h1.2
    · exact (validB_iff.1 h).1 k hk

theorem showW_app (l : W8) (S T : List St) : showW l (S ++ T) = showW (showW l S) T := by unfold showW; rw [List.foldl_append]
theorem valid_zero {l : W8} {c : Int} (h : validB l c = true) : validB l 0 = true := validB_iff.2 ⟨(validB_iff.1 h).1, by omega, by omega⟩

/-- A valid line with its own code. -/
theorem fix_enc {l : W8} (h : validB l 0 = true) : fix l (enc l) = (l, enc l, 0) := by
  rw [enc_is l h]
  exact fix_clean_is l _ (valid_enc l h) (chk_enc l (valid_enc l h))

theorem LineS.good.fixed {y : LineS} (h : y.good) (hp : y.p ≠ []) : ∃ (m : W8) (d : Int), fix y.x y.c = (m, d, 0) ∧ validB m 0 = true := by
  have hc := (validB_iff.1 h.valid).2
  have he : y.c = ((y.c.toNat : Nat) : Int) := by omega
  have hs := h.sd hp
  have hv := h.valid
  rw [he] at hs hv ⊢
  obtain ⟨m, d, e, v⟩ := fix_good _ _ hv hs
  exact ⟨m, d, e, valid_zero v⟩

theorem settleL_is {y : LineS} (h : y.good) {k : Nat} (hk : k ≤ y.p.length) (h0 : k ≠ 0) :
    ∃ m : W8, (fix y.x y.c).1 = m ∧ (fix y.x y.c).2.2 = 0 ∧ validB m 0 = true ∧ validB (showW m (y.p.take k)) 0 = true ∧ settleL y k = ⟨showW m (y.p.take k), enc (showW m (y.p.take k)), y.p.drop k, max 0 (y.mark - k)⟩ := by
  obtain ⟨m, d, e, v⟩ := h.fixed (fun h => by rw [h] at hk; simp at hk; omega)
  refine ⟨m, by rw [e], by rw [e], v, showW_ok _ _ v fun s hs => h.p s (List.mem_of_mem_take hs), ?_⟩
  unfold settleL showL
  rw [if_neg h0, e]
  simp

theorem LineS.good.settle {y : LineS} (h : y.good) {k : Nat} (hk : k ≤ y.p.length) : (settleL y k).good := by
  by_cases h0 : k = 0
  · unfold settleL; rw [if_pos h0]; exact h
  obtain ⟨m, -, -, v, v2, e⟩ := settleL_is h hk h0
  rw [e]
  refine ⟨?_, fun _ => ?_, fun s hs => h.p s (List.mem_of_mem_drop hs)⟩
  · show validB _ (enc _) = true
    rw [enc_is _ v2]; exact valid_enc _ v2
  · show (fix _ (enc _)).2.2 = 0
    rw [fix_enc v2]

/-- What is seen of a line is what was seen ahead of the settling. -/
theorem see_settle {y : LineS} (h : y.good) {k : Nat} (hk : k ≤ y.p.length) : showL (settleL y k).x (settleL y k).c (settleL y k).p = showL y.x y.c y.p := by
  by_cases h0 : k = 0
  · unfold settleL; rw [if_pos h0]
  obtain ⟨m, e1, e2, v, v2, e⟩ := settleL_is h hk h0
  rw [e]
  show showL _ (enc _) (y.p.drop k) = _
  unfold showL
  rw [fix_enc v2, if_pos rfl, if_pos e2, e1]
  show (showW _ _, (0 : Int)) = _
  rw [← showW_app, List.take_append_drop]

structure MemS.good (M : MemS) : Prop where
  line : ∀ y ∈ M.L, y.good ∧ 0 ≤ y.mark ∧ y.mark ≤ y.p.length

theorem MemS.good.sound {M : MemS} (h : M.good) : M.sound := fun y hy => (h.line y hy).1.sd

theorem MemS.good.put {M : MemS} (h : M.good) (k a v : Int) : (putM M k a v).2.good := by
  unfold putM
  split
  · exact h
  split
  · exact h
  rename_i y hy
  split
  · exact h
  rename_i hv
  split
  · exact h
  rename_i h2
  refine ⟨fun z hz => ?_⟩
  rcases mem_set_line hz with hz | rfl
  · exact h.line z hz
  · obtain ⟨g, m0, m1⟩ := h.line y (List.mem_of_getElem? hy)
    refine ⟨⟨g.valid, fun _ => (fix_chk _ _).2 h2, fun s hs => ?_⟩, m0, by simp; omega⟩
    rcases List.mem_append.1 hs with hs | hs
    · exact g.p s hs
    · rw [List.mem_singleton] at hs; subst hs
      exact ⟨by simp; omega, by simpa using hv⟩

theorem MemS.good.flush {M : MemS} (h : M.good) (k : Int) : (flushM M k).2.good := by
  unfold flushM
  split
  · exact h
  split
  · exact h
  rename_i y hy
  refine ⟨fun z hz => ?_⟩
  rcases mem_set_line hz with hz | rfl
  · exact h.line z hz
  · obtain ⟨g, m0, m1⟩ := h.line y (List.mem_of_getElem? hy)
    exact ⟨⟨g.valid, g.sd, g.p⟩, by simp, by simp⟩

theorem MemS.good.stores {M : MemS} : ∀ (E : List En), M.good → (storesM M E).good
  | E, h => by
    unfold storesM
    induction E generalizing M with
    | nil => exact h
    | cons x E ih => exact ih (h.put 1 x.1 x.2)
theorem MemS.good.flushes {M : MemS} : ∀ (ks : List Int), M.good → (flushesM M ks).good
  | ks, h => by
    unfold flushesM
    induction ks generalizing M with
    | nil => exact h
    | cons x ks ih => exact ih (h.flush x)

theorem MemS.good.fence {M : MemS} (h : M.good) : (fenceM M).good := by
  refine ⟨fun z hz => ?_⟩
  obtain ⟨y, hy, rfl⟩ := List.mem_map.1 hz
  obtain ⟨g, m0, m1⟩ := h.line y hy
  refine ⟨g.settle (by omega), ?_⟩
  rw [settleM_p, List.length_drop]
  unfold settleM settleL
  split
  · rename_i h0; omega
  · show 0 ≤ max 0 _ ∧ max 0 _ ≤ _; omega

/-- Fence keeps what is loaded. -/
theorem load_fence {M : MemS} (h : M.good) (a : Int) : loadM (fenceM M).L a = loadM M.L a := by
  unfold loadM fenceM
  by_cases h0 : a < 0
  · rw [if_pos h0, if_pos h0]
  rw [if_neg h0, if_neg h0]
  simp only [List.getElem?_map]
  cases hy : M.L[a.toNat / 8]? with
  | none => rfl
  | some y =>
    obtain ⟨g, m0, m1⟩ := h.line y (List.mem_of_getElem? hy)
    have := see_settle g (k := y.mark.toNat) (by omega)
    simp only [Option.map_some, settleM, this]

/-- Flush keeps what is loaded. -/
theorem load_flush {M : MemS} (k a : Int) : loadM (flushM M k).2.L a = loadM M.L a := by
  unfold flushM
  split
  · rfl
  split
  · rfl
  rename_i y hy
  unfold loadM
  by_cases h0 : a < 0
  · rw [if_pos h0, if_pos h0]
  rw [if_neg h0, if_neg h0]
  simp only [List.getElem?_set]
  by_cases hk : k.toNat = a.toNat / 8
  · rw [if_pos hk, ← hk, hy]
    have := (List.getElem?_eq_some_iff.1 hy).1
    rw [if_pos (by omega)]
  · rw [if_neg hk]

theorem load_flushes {M : MemS} (ks : List Int) (a : Int) : loadM (flushesM M ks).L a = loadM M.L a := by
  unfold flushesM
  induction ks generalizing M with
  | nil => rfl
  | cons k ks ih => exact (ih (M := (flushM M k).2)).trans (load_flush k a)

end Go.Proofs.YtlolaieolgmdnaaDoor

end

section

namespace Go.Proofs.YtlolaieolgmdnaaDoor
set_option linter.unusedVariables false
set_option linter.unusedSimpArgs false

/-- A store that is taken. -/
def CanPut (M : MemS) (x : En) : Prop := 0 ≤ x.1 ∧ okW x.2 = true ∧ ∃ y, M.L[x.1.toNat / 8]? = some y ∧ (chk y.x y.c).1 ≠ 2

theorem put_is {M : MemS} {k : Int} {x : En} (h : CanPut M x) : ∃ y, M.L[x.1.toNat / 8]? = some y ∧ (chk y.x y.c).1 ≠ 2 ∧
    putM M k x.1 x.2 = (0, ⟨M.L.set (x.1.toNat / 8) { y with p := y.p ++ [(((x.1.toNat % 8 : Nat) : Int), x.2)] }, M.span, M.ev ++ [⟨k, x.1, x.2, M.span, zer⟩]⟩) := by
  obtain ⟨h0, hv, y, hy, hc⟩ := h
  refine ⟨y, hy, hc, ?_⟩
  unfold putM
  rw [if_neg (by omega), hy]
  simp only
  rw [if_neg (by rw [hv]; simp), if_neg hc]

theorem CanPut.put {M : MemS} {k : Int} {x z : En} (h : CanPut M x) (hz : CanPut M z) : CanPut (putM M k x.1 x.2).2 z := by
  obtain ⟨y, hy, hc, e⟩ := put_is (k := k) h
  obtain ⟨z0, zv, y2, hy2, hc2⟩ := hz
  rw [e]
  refine ⟨z0, zv, ?_⟩
  have hlt := (List.getElem?_eq_some_iff.1 hy).1
  by_cases he : x.1.toNat / 8 = z.1.toNat / 8
  · refine ⟨{ y with p := y.p ++ [(((x.1.toNat % 8 : Nat) : Int), x.2)] }, by rw [List.getElem?_set, if_pos he, if_pos hlt], hc⟩
  · exact ⟨y2, by rw [List.getElem?_set, if_neg he]; exact hy2, hc2⟩

theorem load_put {M : MemS} {k : Int} {x : En} (h : CanPut M x) (a : Int) : loadM (putM M k x.1 x.2).2.L a = if a = x.1 then (x.2, 0) else loadM M.L a := by
  obtain ⟨y, hy, hc, e⟩ := put_is (k := k) h
  have h0 := h.1
  have hlt := (List.getElem?_eq_some_iff.1 hy).1
  have hf : (fix y.x y.c).2.2 = 0 := (fix_chk _ _).2 hc
  rw [e]
  unfold loadM
  by_cases ha : a < 0
  · rw [if_pos ha, if_neg (by omega), if_pos ha]
  rw [if_neg ha, if_neg ha]
  simp only [List.getElem?_set]
  by_cases he : x.1.toNat / 8 = a.toNat / 8
  · rw [if_pos he, if_pos hlt, ← he, hy]
    simp only
    unfold showL
    rw [if_pos hf, if_pos hf]
    simp only [if_true]
    rw [showW_snoc, W8.get_set _ _ _ _ (by simp; omega)]
    by_cases hax : a = x.1
    · rw [if_pos hax, if_pos (by rw [hax]; simp; omega)]
    · rw [if_neg hax, if_neg (by simp; omega)]
  · rw [if_neg he, if_neg (by intro h; rw [h] at he; exact he rfl)]

theorem storesM_cons (M : MemS) (x : En) (E : List En) : storesM M (x :: E) = storesM (putM M 1 x.1 x.2).2 E := rfl

theorem load_stores : ∀ (E : List En) {M : MemS}, (∀ x ∈ E, CanPut M x) → ∀ a, loadM (storesM M E).L a = match lastE E a with | some v => (v, 0) | none => loadM M.L a
  | E, M, h, a => by
    suffices H : ∀ E : List En, (∀ x ∈ E, CanPut M x) → (∀ z, CanPut M z → CanPut (storesM M E) z) ∧ loadM (storesM M E).L a = match lastE E a with | some v => (v, 0) | none => loadM M.L a from (H E h).2
    clear h E
    intro E
    refine snoc_ind (P := fun E : List En => (∀ x ∈ E, CanPut M x) → (∀ z, CanPut M z → CanPut (storesM M E) z) ∧ loadM (storesM M E).L a = match lastE E a with | some v => (v, 0) | none => loadM M.L a) E (fun _ => ⟨fun z h => h, rfl⟩) fun E x ih h => ?_
    obtain ⟨i1, i2⟩ := ih fun z hz => h z (by simp [hz])
    have hx := i1 x (h x (by simp))
    rw [storesM_snoc]
    refine ⟨fun z hz => hx.put (i1 z hz), ?_⟩
    rw [load_put hx, lastE_snoc]
    by_cases he : a = x.1
    · rw [if_pos he, if_pos he.symm]
    · rw [if_neg he, if_neg (fun h => he h.symm)]; exact i2

theorem check_can {M : MemS} {E : List En} (h : checkM M E = 0) : ∀ x ∈ E, CanPut M x := by
  intro x hx
  unfold checkM at h
  by_cases h1 : E.any (badA M) = true
  · rw [if_pos h1] at h; cases h
  rw [if_neg h1] at h
  by_cases h2 : E.any badV = true
  · rw [if_pos h2] at h; cases h
  rw [if_neg h2] at h
  by_cases h3 : E.any (badR M) = true
  · rw [if_pos h3] at h; cases h
  have a1 : badA M x = false := by
    cases hb : badA M x with
    | false => rfl
    | true => exact absurd (List.any_eq_true.2 ⟨x, hx, hb⟩) h1
  have a2 : badV x = false := by
    cases hb : badV x with
    | false => rfl
    | true => exact absurd (List.any_eq_true.2 ⟨x, hx, hb⟩) h2
  have a3 : badR M x = false := by
    cases hb : badR M x with
    | false => rfl
    | true => exact absurd (List.any_eq_true.2 ⟨x, hx, hb⟩) h3
  unfold badA hasV at a1
  unfold badV at a2
  unfold badR stateM at a3
  simp at a1 a2 a3
  obtain ⟨p0, p1⟩ := a1
  have hd : x.1.tdiv 8 = ((x.1.toNat / 8 : Nat) : Int) := by
    rw [Int.tdiv_eq_ediv_of_nonneg p0]; omega
  rw [hd] at p1 a3
  refine ⟨p0, okW_iff.2 (by omega), M.L[x.1.toNat / 8]'(by omega), List.getElem?_eq_getElem _, ?_⟩
  rw [if_pos (by omega), Int.toNat_natCast, List.getElem?_eq_getElem (by omega)] at a3
  exact a3

/-- What is loaded behind Apply. -/
theorem load_apply {M : MemS} (hM : M.good) {E : List En} (h : checkM M E = 0) (a : Int) : loadM (applyM M E).2.L a = match lastE E a with | some v => (v, 0) | none => loadM M.L a := by
  unfold applyM
  rw [if_pos h]
  show loadM (fenceM _).L a = _
  rw [load_fence ((hM.stores E).flushes _), load_flushes, load_stores E (check_can h)]

theorem flush_line {M : MemS} (k : Int) (n : Nat) : (flushM M k).2.L[n]? = (M.L[n]?).map fun y => if k = (n : Int) then { y with mark := (y.p.length : Int) } else y := by
  unfold flushM
  by_cases h0 : k < 0
  · rw [if_pos h0]
    cases M.L[n]? with
    | none => rfl
    | some y => simp only [Option.map_some]; rw [if_neg (by omega)]
  rw [if_neg h0]
  cases hy : M.L[k.toNat]? with
  | none =>
    cases hn : M.L[n]? with
    | none => simp [hn]
    | some y =>
      simp only [Option.map_some, hn]
      rw [if_neg (by rintro rfl; simp at hy; have := (List.getElem?_eq_some_iff.1 hn).1; omega)]
  | some y =>
    simp only [List.getElem?_set]
    by_cases he : k.toNat = n
    · subst he
      rw [if_pos rfl, if_pos (List.getElem?_eq_some_iff.1 hy).1, hy]
      simp only [Option.map_some]
      rw [if_pos (by omega)]
    · rw [if_neg he]
      cases M.L[n]? with
      | none => rfl
      | some z => simp only [Option.map_some]; rw [if_neg (by omega)]

theorem flushes_line {M : MemS} (ks : List Int) (n : Nat) : (flushesM M ks).L[n]? = (M.L[n]?).map fun y => if (n : Int) ∈ ks then { y with mark := (y.p.length : Int) } else y := by
  refine snoc_ind (P := fun ks => (flushesM M ks).L[n]? = (M.L[n]?).map fun y => if (n : Int) ∈ ks then { y with mark := (y.p.length : Int) } else y) ks ?_ fun ks k ih => ?_
  · show M.L[n]? = _
    cases M.L[n]? <;> simp
  · rw [flushesM_snoc, flush_line, ih, Option.map_map]
    congr 1
    funext y
    simp only [Function.comp, List.mem_append, List.mem_singleton]
    by_cases h1 : (n : Int) ∈ ks
    · simp [h1]
    · by_cases h2 : k = (n : Int)
      · simp [h1, h2]
      · rw [if_neg h1, if_neg h2, if_neg (by rintro (h | h); exact h1 h; exact h2 h.symm)]

/-- Nothing is pending in the lines of what was applied. -/
theorem apply_pend {M : MemS} {E : List En} (h : checkM M E = 0) {n : Nat} (hn : (n : Int) ∈ linesE E) {y : LineS} (hy : (applyM M E).2.L[n]? = some y) : y.p = [] := by
  unfold applyM at hy
  rw [if_pos h] at hy
  simp only [fenceM, List.getElem?_map] at hy
  rw [flushes_line] at hy
  cases hz : (storesM M E).L[n]? with
  | none => rw [hz] at hy; cases hy
  | some z =>
    rw [hz] at hy
    simp only [Option.map_some, Option.some.injEq] at hy
    rw [if_pos hn] at hy
    rw [← hy, settleM_p]
    simp

end Go.Proofs.YtlolaieolgmdnaaDoor

end

section

namespace Go.Proofs.YtlolaieolgmdnaaDoor

open Go.RowKit
set_option linter.unusedVariables false
set_option linter.unusedSimpArgs false
set_option maxRecDepth 10000

abbrev Cut := Int × Int
def cutC (x : Cut) : List Value := [.int .i64 x.1, .int .i64 x.2]
theorem cutC_len (x : Cut) : (cutC x).length = 2 := rfl
theorem cutC_one (x : Cut) : ∀ v ∈ cutC x, v.oneCell' = true := by simp [cutC, Value.oneCell']

def dropM (y : LineS) : LineS := { y with p := [], mark := 0 }
def cut1 (L : List LineS) (x : Cut) : List LineS := match L[x.1.toNat]? with | some y => L.set x.1.toNat (settleL y x.2.toNat) | none => L
def cutsL (L : List LineS) (cuts : List Cut) : List LineS := cuts.foldl cut1 L
def crashM (M : MemS) (cuts : List Cut) : MemS := ⟨(cutsL M.L cuts).map dropM, 0, []⟩

/-- Cuts that are right. -/
structure CutsOk (L : List LineS) (cuts : List Cut) : Prop where
  line : ∀ x ∈ cuts, ∃ y, L[x.1.toNat]? = some y ∧ 0 ≤ x.1 ∧ 0 ≤ x.2 ∧ x.2 ≤ y.p.length
  rise : cuts.Pairwise fun a b => a.1 < b.1

theorem cutsL_snoc (L : List LineS) (cuts : List Cut) (x : Cut) : cutsL L (cuts ++ [x]) = cut1 (cutsL L cuts) x := by unfold cutsL; rw [List.foldl_append]; rfl

theorem cutsL_other {L : List LineS} {n : Nat} : ∀ (cuts : List Cut), (∀ x ∈ cuts, x.1.toNat ≠ n) → (cutsL L cuts)[n]? = L[n]?
  | cuts, h => by
    unfold cutsL
    induction cuts generalizing L with
    | nil => rfl
    | cons x cuts ih =>
      rw [List.foldl_cons, ih (fun z hz => h z (by simp [hz]))]
      unfold cut1
      split
      · rw [List.getElem?_set_ne (h x (by simp))]
      · rfl

theorem dropM_idle {y : LineS} (hy : y.ok) (hp : y.p = []) : dropM y = y := by
  have h1 := hy.m1
  have h0 := hy.m0
  rw [hp] at h1
  simp only [List.length_nil] at h1
  have : y.mark = 0 := by omega
  cases y
  simp at hp this
  subst hp; subst this; rfl

theorem settleL_ok {y : LineS} (hy : y.ok) (k : Nat) : (settleL y k).ok := by
  obtain ⟨h1, h2, h3, h4⟩ := hy
  unfold settleL
  split
  · exact ⟨h1, h2, h3, h4⟩
  · refine ⟨fun s hs => h1 s (List.mem_of_mem_drop hs), by simp; omega, ?_, ?_⟩
    · show 0 ≤ max 0 _; omega
    · show max 0 _ ≤ _
      simp only [List.length_drop]
      omega

theorem cutsL_ok : ∀ (cuts : List Cut) (L : List LineS), (∀ y ∈ L, y.ok) → ∀ y ∈ cutsL L cuts, y.ok
  | [], L, h => h
  | x :: cuts, L, h => by
    show ∀ y ∈ cutsL (cut1 L x) cuts, y.ok
    refine cutsL_ok cuts _ ?_
    unfold cut1
    split
    · rename_i y hy
      intro z hz
      rcases mem_set_line hz with hz | rfl
      · exact h z hz
      · exact settleL_ok (h y (List.mem_of_getElem? hy)) _
    · exact h

theorem cutsL_length : ∀ (cuts : List Cut) (L : List LineS), (cutsL L cuts).length = L.length
  | [], L => rfl
  | x :: cuts, L => by
    show (cutsL (cut1 L x) cuts).length = _
    rw [cutsL_length cuts]
    unfold cut1
    split
    · simp
    · rfl

open Classical in
def PartD (L0 L : List LineS) (es : Array MapEntry) (seen : Array Nat) : Prop := ∀ i : Nat, L[i]? = (L0[i]?).map fun y => if DoneAt es seen i then dropM y else y

section

variable {c : Cx} {Γ Δ Ω : List HProp} {w : World} {m : Nat} {M : MemS} {lv ev : Value} {ps : List Value} {mb ck : Nat} {es : Array MapEntry}

end

end Go.Proofs.YtlolaieolgmdnaaDoor

end

section

namespace Go.Proofs.YtlolaieolgmdnaaDoor
set_option linter.unusedVariables false
set_option linter.unusedSimpArgs false

theorem line_of {a : Int} (h : 0 ≤ a) : a.tdiv 8 = ((a.toNat / 8 : Nat) : Int) := by
  rw [Int.tdiv_eq_ediv_of_nonneg h]; omega

theorem lines_has {E : List Ent} {x : Ent} (hx : x ∈ E) (h0 : 0 ≤ x.1) : ((x.1.toNat / 8 : Nat) : Int) ∈ linesE E := by
  unfold linesE
  rw [compact_is, lnF_mem, List.mem_mergeSort, List.mem_map]
  exact ⟨x, hx, line_of h0⟩

theorem load_crash_nil {M : MemS} {a : Int} (h : ∀ y, M.L[a.toNat / 8]? = some y → y.p = []) : loadM (crashM M []).L a = loadM M.L a := by
  unfold loadM crashM cutsL
  by_cases h0 : a < 0
  · rw [if_pos h0, if_pos h0]
  rw [if_neg h0, if_neg h0]
  simp only [List.foldl_nil, List.getElem?_map]
  cases hy : M.L[a.toNat / 8]? with
  | none => rfl
  | some y =>
    have := h y hy
    simp only [Option.map_some, dropM, this]

theorem load_durable {M : MemS} (hM : M.good) {E : List Ent} (h : checkM M E = 0) {a v : Int} (ha : lastE E a = some v) : loadM (crashM (applyM M E).2 []).L a = (v, 0) := by
  have hx := lastE_mem ha
  have h0 := (check_can h _ hx).1
  rw [load_crash_nil fun y hy => apply_pend h (lines_has hx h0) hy, load_apply hM h, ha]

end Go.Proofs.YtlolaieolgmdnaaDoor

end
