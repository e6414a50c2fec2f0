/-
  Merged entries applied; entries applied part by part.
-/
import Derived.Test.YtlolaieolgmdnaaDoorPlainQ

namespace Go.Proofs.YtlolaieolgmdnaaDoor
set_option linter.unusedVariables false
set_option linter.unusedSimpArgs false

theorem lastE_append : ∀ (B A : List En) (a : Int), lastE (A ++ B) a = match lastE B a with | some v => some v | none => lastE A a := by
  intro B A a
  unfold lastE
  rw [List.reverse_append, List.find?_append]
  cases h : B.reverse.find? (fun x => x.1 == a) <;> rfl

theorem asc_last : ∀ {L : List En}, Asc L → ∀ a, lastE L a = none ∨ ∃ v, lastE L a = some v ∧ (a, v) ∈ L := fun {L} _ a => by
  cases h : lastE L a with
  | none => exact .inl rfl
  | some v => exact .inr ⟨v, rfl, lastE_mem h⟩

theorem asc_one {L : List En} (h : Asc L) {a u v : Int} (hu : (a, u) ∈ L) (hv : (a, v) ∈ L) : u = v := by
  induction L with
  | nil => cases hu
  | cons x L ih =>
    obtain ⟨h1, h2⟩ := List.pairwise_cons.1 h
    rcases List.mem_cons.1 hu with e | hu
    · rcases List.mem_cons.1 hv with f | hv
      · rw [← e] at f; injection f with _ f; exact f.symm
      · have := h1 _ hv; rw [← e] at this; simp at this
    · rcases List.mem_cons.1 hv with f | hv
      · have := h1 _ hu; rw [← f] at this; simp at this
      · exact ih h2 hu hv

theorem lastE_merged (E : List En) (a : Int) : lastE (mergedE E) a = lastE E a := by
  obtain ⟨h1, h2⟩ := mergedE_is E
  cases h : lastE (mergedE E) a with
  | some v => exact ((h2 a v).1 (lastE_mem h)).symm
  | none =>
    cases h3 : lastE E a with
    | none => rfl
    | some v => exact absurd rfl (lastE_none h (a, v) ((h2 a v).2 h3))

theorem mergedE_idem (E : List En) : mergedE (mergedE E) = mergedE E := by
  obtain ⟨h1, h2⟩ := mergedE_is E
  obtain ⟨g1, g2⟩ := mergedE_is (mergedE E)
  refine asc_ext _ _ g1 h1 fun ⟨k, v⟩ => ?_
  rw [g2, h2, lastE_merged]

theorem merged_sub {E : List En} {x : En} (h : x ∈ mergedE E) : x ∈ E := lastE_mem (((mergedE_is E).2 x.1 x.2).1 h)

/-- What can be stored is what Check accepts. -/
theorem check_of_can {M : MemS} {E : List En} (h : ∀ x ∈ E, CanPut M x) : checkM M E = 0 := by
  unfold checkM
  rw [if_neg, if_neg, if_neg]
  · intro hb
    obtain ⟨x, hx, hb⟩ := List.any_eq_true.1 hb
    obtain ⟨h0, h1, y, hy, hc⟩ := h x hx
    unfold badR stateM at hb
    rw [line_of h0, if_pos (by omega), Int.toNat_natCast, hy] at hb
    simp only [decide_eq_true_eq] at hb
    exact hc hb
  · intro hb
    obtain ⟨x, hx, hb⟩ := List.any_eq_true.1 hb
    obtain ⟨h0, h1, y, hy, hc⟩ := h x hx
    have := okW_iff.1 h1
    unfold badV at hb
    simp only [decide_eq_true_eq] at hb
    omega
  · intro hb
    obtain ⟨x, hx, hb⟩ := List.any_eq_true.1 hb
    obtain ⟨h0, h1, y, hy, hc⟩ := h x hx
    have := (List.getElem?_eq_some_iff.1 hy).1
    unfold badA hasV at hb
    rw [line_of h0] at hb
    simp only [Bool.not_eq_true', decide_eq_false_iff_not] at hb
    exact hb ⟨h0, by omega⟩

theorem check_sub {M : MemS} {E S : List En} (h : checkM M E = 0) (hS : ∀ x ∈ S, x ∈ E) : checkM M S = 0 := check_of_can fun x hx => check_can h x (hS x hx)

theorem CanPut.put' {M : MemS} {z : En} (h : CanPut M z) (k a v : Int) : CanPut (putM M k a v).2 z := by
  rcases put_or M k a v with e | hc
  · rw [e]; exact h
  · exact hc.put h

theorem CanPut.flush {M : MemS} {z : En} (h : CanPut M z) (k : Int) : CanPut (flushM M k).2 z := by
  obtain ⟨h0, h1, y, hy, hc⟩ := h
  refine ⟨h0, h1, ?_⟩
  rw [flush_line, hy, Option.map_some]
  refine ⟨_, rfl, ?_⟩
  split
  · exact hc
  · exact hc

theorem CanPut.fence {M : MemS} {z : En} (hM : M.good) (h : CanPut M z) : CanPut (fenceM M) z := by
  obtain ⟨h0, h1, y, hy, hc⟩ := h
  refine ⟨h0, h1, settleM y, ?_, ?_⟩
  · simp only [fenceM, List.getElem?_map, hy, Option.map_some]
  · obtain ⟨g, m0, m1⟩ := hM.line y (List.mem_of_getElem? hy)
    exact (fix_chk _ _).1 (g.whole_settle ((fix_chk _ _).2 hc) (by omega))

theorem CanPut.stores {z : En} : ∀ (S : List En) {M : MemS}, CanPut M z → CanPut (storesM M S) z
  | [], M, h => h
  | x :: S, M, h => CanPut.stores S (h.put' 1 x.1 x.2)
theorem CanPut.flushes {z : En} : ∀ (ks : List Int) {M : MemS}, CanPut M z → CanPut (flushesM M ks) z
  | [], M, h => h
  | k :: ks, M, h => CanPut.flushes ks (h.flush k)

theorem MemS.good.apply {M : MemS} (h : M.good) (E : List En) : (applyM M E).2.good := by
  unfold applyM
  split
  · exact ((h.stores E).flushes _).fence
  · exact h

theorem CanPut.apply {M : MemS} {z : En} (hM : M.good) (h : CanPut M z) (E : List En) : CanPut (applyM M E).2 z := by
  unfold applyM
  split
  · exact CanPut.fence ((hM.stores E).flushes _) (CanPut.flushes _ (CanPut.stores E h))
  · exact h

theorem putM_len (M : MemS) (k a v : Int) : (putM M k a v).2.L.length = M.L.length := by
  rcases put_or M k a v with e | hc
  · rw [e]
  · obtain ⟨y, hy, hs, e⟩ := put_is (k := k) hc
    rw [e]; simp
theorem flushM_len (M : MemS) (k : Int) : (flushM M k).2.L.length = M.L.length := by
  unfold flushM
  split
  · rfl
  split
  · rfl
  · simp
theorem storesM_len : ∀ (S : List En) (M : MemS), (storesM M S).L.length = M.L.length
  | [], _ => rfl
  | x :: S, M => (storesM_len S _).trans (putM_len M 1 x.1 x.2)
theorem flushesM_len : ∀ (ks : List Int) (M : MemS), (flushesM M ks).L.length = M.L.length
  | [], _ => rfl
  | k :: ks, M => (flushesM_len ks _).trans (flushM_len M k)
theorem applyM_len (M : MemS) (E : List En) : (applyM M E).2.L.length = M.L.length := by
  unfold applyM
  split
  · simp [fenceM, flushesM_len, storesM_len]
  · rfl

theorem applyM_ok {M : MemS} {E : List En} (h : checkM M E = 0) : (applyM M E).1 = 0 := by unfold applyM; rw [if_pos h]

end Go.Proofs.YtlolaieolgmdnaaDoor
