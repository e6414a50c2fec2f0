/-
  Apply played in part, then a crash: what stays, and what Apply does behind it. Loads tell what is seen.
-/
import Derived.Test.YtlolaieolgmdnaaDoorMZ

namespace Go.Proofs.YtlolaieolgmdnaaDoor
set_option linter.unusedVariables false
set_option linter.unusedSimpArgs false

def MemS.whole (M : MemS) : Prop := ∀ y ∈ M.L, (fix y.x y.c).2.2 = 0

theorem LineS.good.whole_settle {y : LineS} (h : y.good) (hw : (fix y.x y.c).2.2 = 0) {k : Nat} (hk : k ≤ y.p.length) : (fix (settleL y k).x (settleL y k).c).2.2 = 0 := by
  by_cases h0 : k = 0
  · unfold settleL; rw [if_pos h0]; exact hw
  obtain ⟨m, -, -, v, v2, e⟩ := settleL_is h hk h0
  rw [e]
  show (fix _ (enc _)).2.2 = 0
  rw [fix_enc v2]

theorem showW_other {j : Nat} : ∀ (S : List St) (l : W8), (∀ s ∈ S, 0 ≤ s.1 ∧ s.1 < 8 ∧ s.1 ≠ (j : Int)) → (showW l S).get j = l.get j
  | [], l, _ => rfl
  | s :: S, l, h => by
    obtain ⟨h1, h2, h3⟩ := h s (by simp)
    show (showW (l.set s.1.toNat s.2) S).get j = _
    rw [showW_other S _ fun z hz => h z (by simp [hz]), W8.get_set _ _ _ _ (by omega), if_neg (by omega)]

/-- What a memory is, that stores of E have changed, and failures. -/
structure PartM (M0 : MemS) (E : List En) (M : MemS) : Prop where
  good : M.good
  whole : M.whole
  len : M.L.length = M0.L.length
  pend : ∀ (n : Nat) (y : LineS), M.L[n]? = some y → ∀ s ∈ y.p, ∃ x ∈ E, x.1 = 8 * (n : Int) + s.1
  load : ∀ a, (∀ x ∈ E, x.1 ≠ a) → loadM M.L a = loadM M0.L a

theorem put_or (M : MemS) (k a v : Int) : (putM M k a v).2 = M ∨ CanPut M (a, v) := by
  unfold putM CanPut
  split
  · exact .inl rfl
  split
  · exact .inl rfl
  rename_i y hy
  split
  · exact .inl rfl
  rename_i hv
  split
  · exact .inl rfl
  rename_i hs
  exact .inr ⟨by simp; omega, by simpa using hv, y, hy, hs⟩

theorem PartM.put {M0 M : MemS} {E : List En} (h : PartM M0 E M) (k : Int) {x : En} (hx : x ∈ E) : PartM M0 E (putM M k x.1 x.2).2 := by
  rcases put_or M k x.1 x.2 with e | hc
  · rw [e]; exact h
  obtain ⟨y, hy, hs, e⟩ := put_is (k := k) hc
  have h0 := hc.1
  refine ⟨h.good.put _ _ _, ?_, ?_, ?_, fun a ha => ?_⟩
  · rw [e]
    intro z hz
    rcases mem_set_line hz with hz | rfl
    · exact h.whole z hz
    · exact h.whole y (List.mem_of_getElem? hy)
  · rw [e]; simp [h.len]
  · rw [e]
    intro n z hz s hs
    simp only [List.getElem?_set] at hz
    split at hz
    · rename_i hn
      split at hz
      · cases hz
        rcases List.mem_append.1 hs with hs | hs
        · rw [← hn]; exact h.pend _ y hy s hs
        · rw [List.mem_singleton] at hs
          subst hs
          refine ⟨x, hx, ?_⟩
          rw [← hn]
          simp only
          simp only at h0
          omega
      · cases hz
    · exact h.pend n z hz s hs
  · rw [load_put hc, if_neg (fun he => ha x hx he.symm)]
    exact h.load a ha

theorem PartM.flush {M0 M : MemS} {E : List En} (h : PartM M0 E M) (k : Int) : PartM M0 E (flushM M k).2 := by
  have hl : (flushM M k).2.L.length = M.L.length := by
    unfold flushM
    split
    · rfl
    split
    · rfl
    · simp
  have hget := fun (n : Nat) (z : LineS) (hz : (flushM M k).2.L[n]? = some z) => (show ∃ y, M.L[n]? = some y ∧ z.x = y.x ∧ z.c = y.c ∧ z.p = y.p by
    rw [flush_line] at hz
    cases hy : M.L[n]? with
    | none => rw [hy] at hz; cases hz
    | some y =>
      rw [hy] at hz
      simp only [Option.map_some, Option.some.injEq] at hz
      refine ⟨y, rfl, ?_⟩
      rw [← hz]
      split <;> exact ⟨rfl, rfl, rfl⟩)
  refine ⟨h.good.flush k, fun z hz => ?_, hl.trans h.len, fun n z hz s hs => ?_, fun a ha => (load_flush k a).trans (h.load a ha)⟩
  · obtain ⟨n, hn⟩ := List.mem_iff_getElem?.1 hz
    obtain ⟨y, hy, e1, e2, -⟩ := hget n z hn
    rw [e1, e2]; exact h.whole y (List.mem_of_getElem? hy)
  · obtain ⟨y, hy, -, -, e3⟩ := hget n z hz
    rw [e3] at hs; exact h.pend n y hy s hs

theorem settleL_p (y : LineS) (k : Nat) : (settleL y k).p = y.p.drop k := by
  unfold settleL
  split
  · rename_i h; rw [h]; rfl
  · rfl

theorem PartM.fence {M0 M : MemS} {E : List En} (h : PartM M0 E M) : PartM M0 E (fenceM M) := by
  refine ⟨h.good.fence, fun z hz => ?_, by simp [fenceM, h.len], fun n z hz s hs => ?_, fun a ha => (load_fence h.good a).trans (h.load a ha)⟩
  · obtain ⟨y, hy, rfl⟩ := List.mem_map.1 hz
    obtain ⟨g, m0, m1⟩ := h.good.line y hy
    exact g.whole_settle (h.whole y hy) (by omega)
  · simp only [fenceM, List.getElem?_map] at hz
    cases hy : M.L[n]? with
    | none => rw [hy] at hz; cases hz
    | some y =>
      rw [hy] at hz
      simp only [Option.map_some, Option.some.injEq] at hz
      rw [← hz, settleM_p] at hs
      exact h.pend n y hy s (List.mem_of_mem_drop hs)

/-- Each line behind right cuts: a part of what was pending is settled. -/
theorem cutsL_line {L : List LineS} {cuts : List Cut} (hc : CutsOk L cuts) {n : Nat} {y : LineS} (hy : L[n]? = some y) : ∃ k, k ≤ y.p.length ∧ (cutsL L cuts)[n]? = some (settleL y k) := by
  by_cases hn : ∃ x ∈ cuts, x.1.toNat = n
  · obtain ⟨x, hx, hxn⟩ := hn
    obtain ⟨pre, post, rfl⟩ := List.append_of_mem hx
    have hr := List.pairwise_append.1 hc.rise
    have hr2 := List.pairwise_cons.1 hr.2.1
    obtain ⟨z, hz, h1, h2, h3⟩ := hc.line x hx
    rw [hxn, hy] at hz
    cases hz
    refine ⟨x.2.toNat, by omega, ?_⟩
    have e : cutsL L (pre ++ x :: post) = cutsL (cut1 (cutsL L pre) x) post := by unfold cutsL; rw [List.foldl_append]; rfl
    rw [e, cutsL_other post fun q hq => by
      have := hr2.1 q hq
      omega]
    have hp : (cutsL L pre)[n]? = some y := by
      rw [cutsL_other pre fun q hq => ?_]
      · exact hy
      · have := hr.2.2 q hq x (by simp)
        have := (hc.line q (by simp [hq])).choose_spec.2.1
        omega
    unfold cut1
    rw [hxn, hp]
    simp only
    exact set_at hp
  · refine ⟨0, Nat.zero_le _, ?_⟩
    rw [cutsL_other cuts fun q hq he => hn ⟨q, hq, he⟩]
    unfold settleL
    rw [if_pos rfl]; exact hy

theorem crash_line {M : MemS} {cuts : List Cut} (hc : CutsOk M.L cuts) {n : Nat} {z : LineS} (hz : (crashM M cuts).L[n]? = some z) : ∃ y k, M.L[n]? = some y ∧ k ≤ y.p.length ∧ z = dropM (settleL y k) := by
  unfold crashM at hz
  simp only [List.getElem?_map] at hz
  have hlt : n < M.L.length := by
    cases h : (cutsL M.L cuts)[n]? with
    | none => rw [h] at hz; cases hz
    | some _ => have := (List.getElem?_eq_some_iff.1 h).1; rwa [cutsL_length] at this
  obtain ⟨k, hk, e⟩ := cutsL_line hc (List.getElem?_eq_getElem hlt)
  rw [e] at hz
  simp only [Option.map_some, Option.some.injEq] at hz
  exact ⟨_, k, List.getElem?_eq_getElem hlt, hk, hz.symm⟩

theorem PartM.crash {M0 M : MemS} {E : List En} (h : PartM M0 E M) {cuts : List Cut} (hc : CutsOk M.L cuts) : PartM M0 E (crashM M cuts) ∧ ∀ y ∈ (crashM M cuts).L, y.p = [] := by
  have hnil : ∀ y ∈ (crashM M cuts).L, y.p = [] := fun z hz => by
    obtain ⟨n, hn⟩ := List.mem_iff_getElem?.1 hz
    obtain ⟨y, k, -, -, rfl⟩ := crash_line hc hn
    rfl
  refine ⟨⟨⟨fun z hz => ?_⟩, fun z hz => ?_, by simp [crashM, cutsL_length, h.len], fun n z hz s hs => ?_, fun a ha => ?_⟩, hnil⟩
  · obtain ⟨n, hn⟩ := List.mem_iff_getElem?.1 hz
    obtain ⟨y, k, hy, hk, rfl⟩ := crash_line hc hn
    obtain ⟨g, m0, m1⟩ := h.good.line y (List.mem_of_getElem? hy)
    have g2 := g.settle hk
    exact ⟨⟨g2.valid, fun h => absurd rfl h, fun s hs => by cases hs⟩, by simp [dropM], by simp [dropM]⟩
  · obtain ⟨n, hn⟩ := List.mem_iff_getElem?.1 hz
    obtain ⟨y, k, hy, hk, rfl⟩ := crash_line hc hn
    obtain ⟨g, m0, m1⟩ := h.good.line y (List.mem_of_getElem? hy)
    exact g.whole_settle (h.whole y (List.mem_of_getElem? hy)) hk
  · rw [hnil z (List.mem_of_getElem? hz)] at hs; cases hs
  · rw [← h.load a ha]
    unfold loadM
    by_cases h0 : a < 0
    · rw [if_pos h0, if_pos h0]
    rw [if_neg h0, if_neg h0]
    cases hz : (crashM M cuts).L[a.toNat / 8]? with
    | none =>
      have : M.L.length ≤ a.toNat / 8 := by
        have := List.getElem?_eq_none_iff.1 hz
        simpa [crashM, cutsL_length] using this
      rw [List.getElem?_eq_none this]
    | some z =>
      obtain ⟨y, k, hy, hk, rfl⟩ := crash_line hc hz
      rw [hy]
      obtain ⟨g, m0, m1⟩ := h.good.line y (List.mem_of_getElem? hy)
      have hw := h.whole y (List.mem_of_getElem? hy)
      have hpd : ∀ s ∈ y.p, 0 ≤ s.1 ∧ s.1 < 8 ∧ s.1 ≠ ((a.toNat % 8 : Nat) : Int) := fun s hs => by
        obtain ⟨g1, -⟩ := g.p s hs
        obtain ⟨x, hx, he⟩ := h.pend _ y hy s hs
        refine ⟨g1.1, g1.2, fun h4 => ha x hx ?_⟩
        rw [he, h4]
        omega
      have e2 : showL y.x y.c y.p = (showW (fix y.x y.c).1 y.p, 0) := by unfold showL; rw [if_pos hw]
      have e1 : ∃ q : W8, showL (dropM (settleL y k)).x (dropM (settleL y k)).c (dropM (settleL y k)).p = (q, 0) ∧ q.get (a.toNat % 8) = (fix y.x y.c).1.get (a.toNat % 8) := by
        by_cases hk0 : k = 0
        · have : settleL y k = y := by unfold settleL; rw [if_pos hk0]
          rw [this]
          refine ⟨(fix y.x y.c).1, ?_, rfl⟩
          show showL y.x y.c [] = _
          unfold showL; rw [if_pos hw]; rfl
        · obtain ⟨m, f1, f2, v, v2, e⟩ := settleL_is g hk hk0
          rw [e]
          refine ⟨showW m (y.p.take k), ?_, ?_⟩
          · show showL (showW m (y.p.take k)) (enc (showW m (y.p.take k))) [] = _
            unfold showL
            rw [fix_enc v2, if_pos rfl]; rfl
          · rw [showW_other _ _ fun s hs => hpd s (List.mem_of_mem_take hs), f1]
      obtain ⟨q, e1, e3⟩ := e1
      simp only [e1, e2, if_true, e3, showW_other _ _ hpd]

theorem PartM.stores {M0 : MemS} {E : List En} : ∀ (S : List En) {M : MemS}, PartM M0 E M → (∀ x ∈ S, x ∈ E) → PartM M0 E (storesM M S)
  | [], M, h, _ => h
  | x :: S, M, h, hS => PartM.stores S (h.put 1 (hS x (by simp))) fun z hz => hS z (by simp [hz])

theorem PartM.flushes {M0 : MemS} {E : List En} : ∀ (ks : List Int) {M : MemS}, PartM M0 E M → PartM M0 E (flushesM M ks)
  | [], M, h => h
  | k :: ks, M, h => PartM.flushes ks (h.flush k)

theorem PartM.apply {M0 M : MemS} {E S : List En} (h : PartM M0 E M) (hS : ∀ x ∈ S, x ∈ E) : PartM M0 E (applyM M S).2 := by
  unfold applyM
  split
  · exact (PartM.flushes _ (PartM.stores S h hS)).fence
  · exact h

theorem PartM.refl {M : MemS} {E : List En} (hg : M.good) (hw : M.whole) (hp : ∀ y ∈ M.L, y.p = []) : PartM M E M :=
  ⟨hg, hw, rfl, fun n y hy s hs => (by rw [hp y (List.mem_of_getElem? hy)] at hs; cases hs), fun a _ => rfl⟩

/-- A whole memory: Check asks for addresses and words alone. -/
theorem check_whole {M0 M : MemS} {E : List En} (h : checkM M0 E = 0) (hw : M.whole) (hl : M.L.length = M0.L.length) : checkM M E = 0 := by
  unfold checkM at h ⊢
  have e : badA M = badA M0 := by funext x; unfold badA; rw [hl]
  rw [e]
  split at h
  · cases h
  rename_i h1
  rw [if_neg h1]
  split at h
  · cases h
  rename_i h2
  rw [if_neg h2]
  rw [if_neg]
  intro h3
  obtain ⟨x, hx, hb⟩ := List.any_eq_true.1 h3
  unfold badR stateM at hb
  simp only [decide_eq_true_eq] at hb
  split at hb
  · split at hb
    · rename_i y hy
      exact (fix_chk _ _).1 (hw y (List.mem_of_getElem? hy)) hb
    · omega
  · omega

theorem load_at {M : MemS} {n j : Nat} {y : LineS} (hy : M.L[n]? = some y) (hj : j < 8) : loadM M.L ((8 * n + j : Nat) : Int) = if (showL y.x y.c y.p).2 = 0 then ((showL y.x y.c y.p).1.get j, 0) else (0, 9) := by
  unfold loadM
  rw [if_neg (by omega), Int.toNat_natCast, show (8 * n + j) / 8 = n by omega, hy, show (8 * n + j) % 8 = j by omega]

/-- Memories that load the same show the same. -/
theorem seen_of_loads {M M' : MemS} (hl : M.L.length = M'.L.length) (h : ∀ a, loadM M.L a = loadM M'.L a) : M.L.map seenC = M'.L.map seenC := by
  apply List.ext_getElem?
  intro n
  rw [List.getElem?_map, List.getElem?_map]
  by_cases hn : n < M.L.length
  · have h1 := List.getElem?_eq_getElem hn
    have h2 := List.getElem?_eq_getElem (hl ▸ hn : n < M'.L.length)
    rw [h1, h2]
    simp only [Option.map_some, Option.some.injEq]
    generalize M.L[n] = y at h1
    generalize M'.L[n] = z at h2
    show w8C (showL _ _ _).1 = w8C (showL _ _ _).1
    congr 1
    have key : ∀ j, j < 8 → (if (showL y.x y.c y.p).2 = 0 then ((showL y.x y.c y.p).1.get j, (0 : Int)) else (0, 9)) = if (showL z.x z.c z.p).2 = 0 then ((showL z.x z.c z.p).1.get j, 0) else (0, 9) := fun j hj => by
      have := h ((8 * n + j : Nat) : Int)
      rwa [load_at h1 hj, load_at h2 hj] at this
    have zero : ∀ {q : W8} {k : Int} {p : List St}, (showL q k p).2 ≠ 0 → (showL q k p).1 = zer := fun {q k p} hq => by
      unfold showL at hq ⊢
      split at hq
      · exact absurd rfl hq
      · rename_i hf; rw [if_neg hf]
    by_cases ha : (showL y.x y.c y.p).2 = 0
    · by_cases hb : (showL z.x z.c z.p).2 = 0
      · refine W8.ext_get fun j hj => ?_
        have := key j hj
        rw [if_pos ha, if_pos hb] at this
        exact congrArg Prod.fst this
      · have := key 0 (by omega)
        rw [if_pos ha, if_neg hb] at this
        exact absurd (congrArg Prod.snd this) (by simp)
    · by_cases hb : (showL z.x z.c z.p).2 = 0
      · have := key 0 (by omega)
        rw [if_neg ha, if_pos hb] at this
        exact absurd (congrArg Prod.snd this) (by simp)
      · rw [zero ha, zero hb]
  · rw [List.getElem?_eq_none (by omega), List.getElem?_eq_none (by omega)]

theorem lastE_none {E : List En} {a : Int} (h : lastE E a = none) : ∀ x ∈ E, x.1 ≠ a := fun x hx he => by
  obtain ⟨v, hv⟩ := lastE_some hx
  rw [he, h] at hv; cases hv

theorem apply_again {M0 M : MemS} {E : List En} (h0 : M0.good) (hw0 : M0.whole) (hp0 : ∀ y ∈ M0.L, y.p = []) (hc : checkM M0 E = 0) (h : PartM M0 E M) :
    checkM M E = 0 ∧ (applyM M E).2.L.map seenC = (applyM M0 E).2.L.map seenC := by
  have hc' := check_whole hc h.whole h.len
  have p1 := h.apply (S := E) fun x hx => hx
  have p2 := (PartM.refl (E := E) h0 hw0 hp0).apply (S := E) fun x hx => hx
  refine ⟨hc', seen_of_loads (p1.len.trans p2.len.symm) fun a => ?_⟩
  rw [load_apply h.good hc', load_apply h0 hc]
  cases hl : lastE E a with
  | some v => rfl
  | none => exact h.load a (lastE_none hl)

/-! ### Events played -/

def stepP (M : MemS) (e : Ev) : MemS := if e.k = 1 then (putM M 1 e.at' e.v).2 else if e.k = 3 then (flushM M e.at').2 else if e.k = 4 then fenceM M else M
def playM (M : MemS) (l : List Ev) : MemS := l.foldl stepP M
/-- An event of Apply's. -/
def EvA (E : List En) (e : Ev) : Prop := (e.k = 1 ∧ (e.at', e.v) ∈ E) ∨ e.k = 3 ∨ e.k = 4

theorem playM_snoc (M : MemS) (l : List Ev) (e : Ev) : playM M (l ++ [e]) = stepP (playM M l) e := by unfold playM; rw [List.foldl_append]; rfl

theorem PartM.step {M0 M : MemS} {E : List En} (h : PartM M0 E M) {e : Ev} (he : EvA E e) : PartM M0 E (stepP M e) := by
  unfold stepP
  rcases he with ⟨h1, h2⟩ | h1 | h1
  · rw [if_pos h1]; exact h.put 1 h2
  · rw [if_neg (by omega), if_pos h1]; exact h.flush _
  · rw [if_neg (by omega), if_neg (by omega), if_pos h1]; exact h.fence

theorem PartM.play {M0 : MemS} {E : List En} : ∀ (l : List Ev) {M : MemS}, PartM M0 E M → (∀ e ∈ l, EvA E e) → PartM M0 E (playM M l)
  | [], M, h, _ => h
  | e :: l, M, h, hl => PartM.play l (h.step (hl e (by simp))) fun z hz => hl z (by simp [hz])

theorem MemS.okN.step {M : MemS} {N : Nat} (h : M.okN N) (e : Ev) : (stepP M e).okN (N + 1) := by
  unfold stepP
  split
  · exact h.put _ _ _
  split
  · exact h.flush _
  split
  · exact h.fence
  · exact h.mono (Nat.le_succ _)

theorem MemS.okN.play : ∀ (l : List Ev) {M : MemS} {N : Nat}, M.okN N → (playM M l).okN (N + l.length)
  | [], M, N, h => h
  | x :: l, M, N, h => by
    have := MemS.okN.play l (h.step x)
    rw [List.length_cons, show N + (l.length + 1) = N + 1 + l.length by omega]; exact this

theorem put_ev {M : MemS} {k a v : Int} {e : Ev} (h : e ∈ (putM M k a v).2.ev) : e ∈ M.ev ∨ (e.k = k ∧ e.at' = a ∧ e.v = v) := by
  unfold putM at h
  split at h
  · exact .inl h
  split at h
  · exact .inl h
  split at h
  · exact .inl h
  split at h
  · exact .inl h
  rcases List.mem_append.1 h with h | h
  · exact .inl h
  · rw [List.mem_singleton] at h; subst h; exact .inr ⟨rfl, rfl, rfl⟩

theorem flush_ev {M : MemS} {k : Int} {e : Ev} (h : e ∈ (flushM M k).2.ev) : e ∈ M.ev ∨ e.k = 3 := by
  unfold flushM at h
  split at h
  · exact .inl h
  split at h
  · exact .inl h
  rcases List.mem_append.1 h with h | h
  · exact .inl h
  · rw [List.mem_singleton] at h; subst h; exact .inr rfl

theorem stores_ev {E : List En} : ∀ (S : List En) (M : MemS), (∀ x ∈ S, x ∈ E) → (∀ e ∈ M.ev, EvA E e) → ∀ e ∈ (storesM M S).ev, EvA E e
  | [], M, _, h => h
  | x :: S, M, hS, h => by
    refine stores_ev S (putM M 1 x.1 x.2).2 (fun z hz => hS z (by simp [hz])) fun e he => ?_
    rcases put_ev he with he | ⟨h1, h2, h3⟩
    · exact h e he
    · exact .inl ⟨h1, by rw [h2, h3]; exact hS x (by simp)⟩

theorem flushes_ev {E : List En} : ∀ (ks : List Int) (M : MemS), (∀ e ∈ M.ev, EvA E e) → ∀ e ∈ (flushesM M ks).ev, EvA E e
  | [], M, h => h
  | k :: ks, M, h => by
    refine flushes_ev ks (flushM M k).2 fun e he => ?_
    rcases flush_ev he with he | he
    · exact h e he
    · exact .inr (.inl he)

theorem apply_ev {M : MemS} {E : List En} (h : ∀ e ∈ M.ev, EvA E e) : ∀ e ∈ (applyM M E).2.ev, EvA E e := by
  unfold applyM
  split
  · intro e he
    rcases List.mem_append.1 he with he | he
    · exact flushes_ev _ _ (stores_ev E M (fun x hx => hx) h) e he
    · rw [List.mem_singleton] at he; subst he; exact .inr (.inr rfl)
  · exact h

/-! ### Cuts out of numbers -/

def leastI (n m : Int) : Int := (n.tmod m + m).tmod m

theorem leastI_of {n m : Int} (hm : 0 < m) : 0 ≤ leastI n m ∧ leastI n m < m := by
  unfold leastI
  have h1 := Int.lt_tmod_of_pos n hm
  have h3 : 0 ≤ n.tmod m + m := by omega
  exact ⟨Int.tmod_nonneg _ h3, Int.tmod_lt_of_pos _ hm⟩

def cutK (L : List LineS) (keep : List Int) (i : Nat) : List Cut :=
  match L[i]?, keep[i]? with
  | some y, some n => if 0 < y.p.length then [((i : Int), leastI n (y.p.length + 1))] else []
  | _, _ => []
def cutsK (L : List LineS) (keep : List Int) (n : Nat) : List Cut := ((List.range n).map (cutK L keep)).flatten

theorem cutsK_succ (L : List LineS) (keep : List Int) (n : Nat) : cutsK L keep (n + 1) = cutsK L keep n ++ cutK L keep n := by unfold cutsK; rw [List.range_succ]; simp

theorem cutK_mem {L : List LineS} {keep : List Int} {i : Nat} {x : Cut} (h : x ∈ cutK L keep i) : ∃ y n, L[i]? = some y ∧ keep[i]? = some n ∧ 0 < y.p.length ∧ x = ((i : Int), leastI n (y.p.length + 1)) := by
  unfold cutK at h
  split at h
  · rename_i y n hy hn
    split at h
    · rename_i hp
      rw [List.mem_singleton] at h
      exact ⟨y, n, hy, hn, hp, h⟩
    · cases h
  · cases h

theorem cutsK_len (L : List LineS) (keep : List Int) : ∀ n, (cutsK L keep n).length ≤ n
  | 0 => Nat.le_refl _
  | n + 1 => by
    rw [cutsK_succ, List.length_append]
    have := cutsK_len L keep n
    have : (cutK L keep n).length ≤ 1 := by unfold cutK; split; split; exact Nat.le_refl _; exact Nat.zero_le _; exact Nat.zero_le _
    omega

theorem cutsK_ok (L : List LineS) (keep : List Int) : ∀ n, CutsOk L (cutsK L keep n) ∧ ∀ x ∈ cutsK L keep n, x.1 < n
  | 0 => ⟨⟨by simp [cutsK], by simp [cutsK]⟩, by simp [cutsK]⟩
  | n + 1 => by
    obtain ⟨⟨h1, h2⟩, h3⟩ := cutsK_ok L keep n
    rw [cutsK_succ]
    refine ⟨⟨fun x hx => ?_, ?_⟩, fun x hx => ?_⟩
    · rcases List.mem_append.1 hx with hx | hx
      · exact h1 x hx
      · obtain ⟨y, m, hy, hm, hp, rfl⟩ := cutK_mem hx
        obtain ⟨l1, l2⟩ := leastI_of (n := m) (m := y.p.length + 1) (by omega)
        exact ⟨y, by simpa using hy, by simp, l1, by show leastI _ _ ≤ _; omega⟩
    · refine List.pairwise_append.2 ⟨h2, ?_, fun a ha b hb => ?_⟩
      · unfold cutK; split; split; exact List.pairwise_singleton _ _; exact List.Pairwise.nil; exact List.Pairwise.nil
      · obtain ⟨y, m, hy, hm, hp, rfl⟩ := cutK_mem hb
        exact h3 a ha
    · rcases List.mem_append.1 hx with hx | hx
      · have := h3 x hx; omega
      · obtain ⟨y, m, hy, hm, hp, rfl⟩ := cutK_mem hx
        show (n : Int) < _; omega

end Go.Proofs.YtlolaieolgmdnaaDoor
