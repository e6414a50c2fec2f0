/-
  What a law's condition gives: slices of elements of ints, read where they lie.
-/
import Derived.Test.YtlolaieolgmdnaaDoorRI

import Derived.Test.YtlolaieolgmdnaaDoorShell

import Derived.Deep.Slices

namespace Go.Proofs.YtlolaieolgmdnaaDoor

open Go.RowKit
set_option linter.unusedVariables false
set_option linter.unusedSimpArgs false
set_option maxRecDepth 10000

theorem chain_cover {P : Program} {rec : Nat → Option Nat} : ∀ (fs : List Field) (o tot : Nat), chainT P rec fs o = some tot → ∀ j, o ≤ j → j < tot →
    ∃ f ∈ fs, ∃ nf, rec f.type = some nf ∧ (P.info? f.type).map (·.size) = some nf ∧ f.offset ≤ j ∧ j < f.offset + nf
  | [], o, tot, h, j, h1, h2 => by
    unfold chainT at h; injection h with h; omega
  | f :: fs, o, tot, h, j, h1, h2 => by
    unfold chainT at h
    cases hr : rec f.type with
    | none => rw [hr] at h; cases h
    | some n =>
      rw [hr] at h
      simp only at h
      split at h
      · rename_i hc
        by_cases hj : j < o + n
        · exact ⟨f, by simp, n, hr, hc.2.2, by omega, by omega⟩
        · obtain ⟨g, hg, h3⟩ := chain_cover fs (o + n) tot h j (by omega) h2
          exact ⟨g, by simp [hg], h3⟩
      · cases h

section

variable {H : Type} {enc : TypeId × Value → H} {P : Program} {w : World} {base : Nat} {sp : Nat → Bool} {held : Bool}

theorem cellsOf_of {t n : Nat} (h : (P.info? t).map (·.size) = some n) : P.cellsOf t = n := by unfold Program.cellsOf; rw [h]; rfl

/-- What reads as a value of a type of ints is ints. -/
theorem trod_ints : ∀ (d t n : Nat), intsT P d t = some n → P.cellsOf t = n → ∀ (fuel : Nat) (cs : List Value) (x : DataW H × List MemPlace), DataW.trod enc P w base sp held fuel t cs = some x →
    cs.length = n ∧ ∀ v ∈ cs, ∃ k : Int, i64 k ∧ v = iV k := by
  intro d
  induction d with
  | zero => intro t n h; cases h
  | succ d ih =>
    intro t n h hc fuel cs x hx
    unfold intsT at h
    split at h
    · rename_i hu
      injection h with h
      subst h
      obtain ⟨k, rfl, -, hw⟩ := DataW.trod_int hu hx
      refine ⟨rfl, fun v hv => ?_⟩
      rw [List.mem_singleton] at hv
      refine ⟨k, ?_, hv⟩
      simp only [Lit.wf, Bool.and_eq_true, decide_eq_true_eq] at hw
      have h1 : IntKind.min .i64 = -9223372036854775808 := by decide
      have h2 : IntKind.max .i64 = 9223372036854775807 := by decide
      unfold i64; omega
    · rename_i fs hu
      split at h
      · cases h
      obtain ⟨xs, m, -, -, hl, hxl, hf⟩ := DataW.trod_struct hu hx
      refine ⟨hl.trans hc, fun v hv => ?_⟩
      obtain ⟨j, hj⟩ := List.mem_iff_getElem?.1 hv
      have hjl := (List.getElem?_eq_some_iff.1 hj).1
      obtain ⟨f, hfm, nf, h1, h2, h3, h4⟩ := chain_cover _ _ _ h j (Nat.zero_le _) (by omega)
      obtain ⟨i, hi⟩ := List.mem_iff_getElem?.1 hfm
      have hg := hf i f (by simpa using hi)
      have hcf := cellsOf_of h2
      cases hxi : xs[i]? with
      | none =>
        rw [List.getElem?_eq_none_iff] at hxi
        have := (List.getElem?_eq_some_iff.1 hi).1
        simp at this; omega
      | some y =>
        rw [hxi] at hg
        obtain ⟨-, hall⟩ := ih f.type nf h1 hcf m _ y hg
        refine hall v (List.mem_iff_getElem?.2 ⟨j - f.offset, ?_⟩)
        rw [List.getElem?_take, if_pos (by omega), List.getElem?_drop, show f.offset + (j - f.offset) = j by omega]; exact hj
    · rename_i len e hu
      cases he : intsT P d e with
      | none => rw [he] at h; cases h
      | some ne =>
        rw [he] at h
        simp only at h
        split at h
        · rename_i hsz
          injection h with h
          obtain ⟨xs, m, -, -, hl, hxl, hf⟩ := DataW.trod_array hu hx
          have hce := cellsOf_of hsz
          refine ⟨hl.trans hc, fun v hv => ?_⟩
          obtain ⟨j, hj⟩ := List.mem_iff_getElem?.1 hv
          have hjl := (List.getElem?_eq_some_iff.1 hj).1
          have hjn : j < len * ne := by omega
          have hne : 0 < ne := Nat.pos_of_ne_zero fun h0 => by subst h0; omega
          have hi : j / ne < len := Nat.div_lt_of_lt_mul (by rw [Nat.mul_comm]; exact hjn)
          have hg := hf (j / ne) hi
          rw [hce] at hg
          cases hxi : xs[j / ne]? with
          | none => rw [List.getElem?_eq_none_iff] at hxi; omega
          | some y =>
            rw [hxi] at hg
            obtain ⟨-, hall⟩ := ih e ne he hce m _ y hg
            have hmod := Nat.mod_lt j hne
            have hdm := Nat.div_add_mod j ne
            rw [Nat.mul_comm] at hdm
            refine hall v (List.mem_iff_getElem?.2 ⟨j % ne, ?_⟩)
            rw [List.getElem?_take, if_pos hmod, List.getElem?_drop, hdm]; exact hj
        · cases h
    · cases h

theorem ints_of : ∀ (cs : List Value), (∀ v ∈ cs, ∃ k : Int, i64 k ∧ v = iV k) → ∃ l : List Int, cs = l.map iV ∧ ∀ k ∈ l, i64 k
  | [], _ => ⟨[], rfl, by simp⟩
  | v :: cs, h => by
    obtain ⟨k, hk, rfl⟩ := h v (by simp)
    obtain ⟨l, rfl, hl⟩ := ints_of cs fun u hu => h u (by simp [hu])
    exact ⟨k :: l, rfl, by simp [hk]; exact hl⟩

theorem all_map {α β : Type} {f : α → β} : ∀ (L : List β), (∀ x ∈ L, ∃ y, f y = x) → ∃ l : List α, L = l.map f
  | [], _ => ⟨[], rfl⟩
  | x :: L, h => by
    obtain ⟨y, rfl⟩ := h x (by simp)
    obtain ⟨l, rfl⟩ := all_map L fun z hz => h z (by simp [hz])
    exact ⟨y :: l, rfl⟩

/-- A slice of elements of ints, opened. -/
theorem open_sliceI {t e d n : Nat} (ht : P.underlying t = some (.slice e)) (hi : intsT P d e = some n) (hc : P.cellsOf e = n) (hn : 0 < n) {fuel : Nat} {cs : List Value} {x : DataW H × List MemPlace}
    (h : DataW.trod enc P w base sp held fuel t cs = some x) : ∃ (L : List (List Int)) (a : Option Addr) (cap : Nat), cs = [.slice a L.length cap] ∧ L.length ≤ 9223372036854775807 ∧ (∀ r ∈ L, r.length = n ∧ ∀ k ∈ r, i64 k) ∧
      slAt w (.slice a L.length cap) L.length ((L.map fun r => r.map iV).flatten) := by
  rcases Go.Deep.open_slice ht h with ⟨rfl, -⟩ | ⟨a, len, cap, m, f, D, Pl, rfl, -, hl, hm, hmm, -, hx⟩
  · exact ⟨[], none, 0, rfl, by simp, by simp, none, 0, rfl, Nat.le_refl _, fun _ => rfl, fun b o sp e => by cases e⟩
  · have hlm : len ≤ m := by rw [hmm]; split <;> omega
    have each : ∀ i, i < len → ∃ r : List Int, (r.length = n ∧ ∀ k ∈ r, i64 k) ∧ ∀ j v, (r.map iV)[j]? = some v → w.cell? (a.add (i * n + j)) = some v := by
      intro i hi'
      obtain ⟨cs', h1, h2⟩ := hx i (by omega)
      rw [hc] at h1
      obtain ⟨-, hlen, hcell⟩ := World.cells?_some h1
      obtain ⟨-, hall⟩ := trod_ints d e n hi hc _ _ _ h2
      obtain ⟨r, rfl, hr⟩ := ints_of cs' hall
      refine ⟨r, ⟨by simpa using hlen, hr⟩, fun j v hj => ?_⟩
      have hjl := (List.getElem?_eq_some_iff.1 hj).1
      have := hcell j (by omega)
      rw [Go.Deep.add_add, hj] at this; exact this
    obtain ⟨g, hg⟩ := Go.Deep.choose_lt each
    have hmx : maxLen = 9223372036854775807 := rfl
    refine ⟨(List.range len).map g, some a, cap, by simp, by simp; omega, fun r hr => ?_, some a, cap, by simp, by simp; omega, (fun e => by cases e), fun b o s e => ?_⟩
    · obtain ⟨i, hi', rfl⟩ := List.mem_map.1 hr
      exact (hg i (List.mem_range.1 hi')).1
    · cases e
      rcases Nat.eq_zero_or_pos len with h0 | hpos
      · subst h0; left; simp
      · right
        have hs : s = none := by
          have h0 := (hg 0 hpos)
          obtain ⟨k, hk⟩ : ∃ k, ((g 0).map iV)[0]? = some k := ⟨_, List.getElem?_eq_getElem (by rw [List.length_map, h0.1.1]; exact hn)⟩
          have h1 := h0.2 0 k hk
          cases s with
          | none => rfl
          | some q =>
            rw [show (⟨b, o, some q⟩ : Addr).add (0 * n + 0) = ⟨b, o, some q⟩ by simp [Addr.add]] at h1
            unfold World.cell? at h1
            split at h1
            · simp at h1
            · cases h1
        subst hs
        refine ⟨rfl, fun j v hj => ?_⟩
        let en : Nat → List Value := fun i => if i < len then (g i).map iV else List.replicate n (iV 0)
        have hen : ∀ i, (en i).length = n := fun i => by
          show (if i < len then (g i).map iV else List.replicate n (iV 0)).length = n
          split
          · rename_i h; rw [List.length_map]; exact (hg i h).1.1
          · simp
        have hrw : ((List.range len).map g).map (fun r => r.map iV) = (List.range len).map en := by
          rw [List.map_map]
          refine List.map_congr_left fun i hi' => ?_
          show (g i).map iV = if i < len then (g i).map iV else List.replicate n (iV 0)
          rw [if_pos (List.mem_range.1 hi')]
        rw [hrw] at hj
        have hjl := (List.getElem?_eq_some_iff.1 hj).1
        rw [rows_length en n hen, List.length_range] at hjl
        have hil : j / n < len := Nat.div_lt_of_lt_mul (by rw [Nat.mul_comm]; exact hjl)
        have hmod := Nat.mod_lt j hn
        have hdm := Nat.div_add_mod j n
        rw [Nat.mul_comm] at hdm
        rw [← hdm, rows_cell en n hen (List.range len) (j / n) (j / n) (by simp [hil]) (j % n) hmod] at hj
        have he : en (j / n) = (g (j / n)).map iV := if_pos hil
        rw [he] at hj
        have := (hg _ hil).2 (j % n) v hj
        rw [add_none, hdm] at this
        exact this

theorem okWide_slice {t e : Nat} {r : Reach} {v : Value} (ht : P.underlying t = some (.slice e)) (hv : Value.okWide P w r base t v) : v.oneCell' = true := by
  unfold Value.okWide at hv
  rw [ht] at hv
  simp only at hv
  unfold Cell.okWide at hv
  rw [ht] at hv
  cases v <;> first | rfl | (simp [Cell.ok, ht] at hv)

theorem open_argI {t e d n : Nat} {r : Reach} {b0 : Nat} {v : Value} {dd : DataW H} {p : List MemPlace} (ht : P.underlying t = some (.slice e)) (hi : intsT P d e = some n) (hc : P.cellsOf e = n) (hn : 0 < n)
    (hv : Value.okWide P w r b0 t v) (h : DataW.Trod enc P w base sp held t v dd p) : ∃ (L : List (List Int)) (a : Option Addr) (cap : Nat), v = .slice a L.length cap ∧ L.length ≤ 9223372036854775807 ∧ (∀ r ∈ L, r.length = n ∧ ∀ k ∈ r, i64 k) ∧
      slAt w v L.length ((L.map fun r => r.map iV).flatten) := by
  have h1 := Value.cells_one (okWide_slice ht hv)
  obtain ⟨fuel, hf⟩ := h
  rw [h1] at hf
  obtain ⟨L, a, cap, e, h2, h3, h4⟩ := open_sliceI ht hi hc hn hf
  injection e with e
  subst e
  exact ⟨L, a, cap, rfl, h2, h3, h4⟩

/-- The same, by elements. -/
theorem open_argT {α : Type} {enc' : α → List Int} {encC : α → List Value} (he : ∀ x, encC x = (enc' x).map iV) {t e d n : Nat} (hsur : ∀ r : List Int, r.length = n → ∃ x, enc' x = r) {r : Reach} {b0 : Nat} {v : Value} {dd : DataW H} {p : List MemPlace}
    (ht : P.underlying t = some (.slice e)) (hi : intsT P d e = some n) (hc : P.cellsOf e = n) (hn : 0 < n)
    (hv : Value.okWide P w r b0 t v) (h : DataW.Trod enc P w base sp held t v dd p) : ∃ (l : List α) (a : Option Addr) (cap : Nat), v = .slice a l.length cap ∧ l.length ≤ 9223372036854775807 ∧ (∀ x ∈ l, ∀ k ∈ enc' x, i64 k) ∧
      slAt w v l.length ((l.map encC).flatten) := by
  obtain ⟨L, a, cap, rfl, h2, h3, h4⟩ := open_argI ht hi hc hn hv h
  obtain ⟨l, rfl⟩ := all_map (f := enc') L fun x hx => hsur x (h3 x hx).1
  rw [List.map_map, show (fun r => List.map iV r) ∘ enc' = encC from funext fun x => (he x).symm] at h4
  rw [List.length_map] at h2 h4 ⊢
  exact ⟨l, a, cap, rfl, h2, fun x hx k hk => (h3 _ (List.mem_map_of_mem hx)).2 k hk, h4⟩

end

theorem img_of : ∀ r : List Int, r.length = 9 → ∃ x, imgL x = r
  | [a0, a1, a2, a3, a4, a5, a6, a7, c], _ => ⟨(⟨a0, a1, a2, a3, a4, a5, a6, a7⟩, c), rfl⟩
theorem en_of : ∀ r : List Int, r.length = 2 → ∃ x, enL x = r
  | [a, b], _ => ⟨(a, b), rfl⟩
/-! ### The whole of the heap, lent -/

def cxOf (W : World) : Cx := ⟨fun k => W.heap[k]?, W.os, W.tape, W.output⟩
theorem sat_cxOf (W : World) : Sat (cxOf W) [] W := ⟨rfl, rfl, rfl, fun k o h => h, trivial⟩

theorem below_of {W W' : World} {Γ : List HProp} (H : Sat (cxOf W) Γ W') : Below W.heap.size W W' := by
  have hb : ∀ k, k < W.heap.size → W'.heap[k]? = W.heap[k]? := fun k hk => by
    have h := H.ro k (W.heap[k]'hk) (Array.getElem?_eq_getElem hk)
    rw [h, Array.getElem?_eq_getElem hk]
  refine ⟨H.os, H.tape, H.output, ?_, hb⟩
  rcases Nat.lt_or_ge W'.heap.size W.heap.size with h | h
  · have := hb W'.heap.size h
    rw [Array.getElem?_eq_none (Nat.le_refl _), Array.getElem?_eq_getElem h] at this
    cases this
  · exact h

theorem slR_of {W : World} {v : Value} {n : Nat} {xs : List Value} (h : slAt W v n xs) : SlR (cxOf W) v n xs := fun {Γ w} H => by
  obtain ⟨a, cap, rfl, hle, hn, hc⟩ := h
  refine ⟨a, cap, rfl, hle, hn, fun b o sp e => ?_⟩
  rcases hc b o sp e with h0 | ⟨rfl, h1⟩
  · exact .inl h0
  · refine .inr ⟨rfl, fun j u hj => ?_⟩
    have h2 := h1 j u hj
    have hb : b < W.heap.size := by
      rcases Nat.lt_or_ge b W.heap.size with h | h
      · exact h
      · simp [World.cell?, Array.getElem?_eq_none h] at h2
    exact ((below_of H).cell (p := ⟨b, o + j, none⟩) hb).trans h2

theorem tabC_of {W : World} (h : TabIn W) : TabC (cxOf W) := fun H => h.below (below_of H)

/-- What the law's walk gives the row. -/
theorem retB_of {P : Program} {f : FuncId} {args : Array Value} {W : World} {v : Value} (h : Calls P f args W (Rt (Yes (cxOf W) [] v))) : Calls P f args W (fun e W' => e = .returned v ∧ Below W.heap.size W W') := by
  refine h.mono ?_
  rintro e W' ⟨u, rfl, rfl, H⟩
  exact ⟨rfl, below_of H⟩

end Go.Proofs.YtlolaieolgmdnaaDoor
