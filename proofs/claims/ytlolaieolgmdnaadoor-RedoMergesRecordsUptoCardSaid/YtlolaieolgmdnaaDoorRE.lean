/-
  Merged entries: the map of last values, its keys sorted; the specification's list.
-/
import Derived.Test.YtlolaieolgmdnaaDoorRD

import Derived.Test.YtlolaieolgmdnaaDoorKeys

import Derived.Shelf.SlIterI.Nil

import Derived.Shelf.SortM.Plain

import Derived.Shelf.SortM.SortNone

namespace Go.Proofs.YtlolaieolgmdnaaDoor

open Go.RowKit
set_option linter.unusedVariables false
set_option linter.unusedSimpArgs false
set_option maxRecDepth 10000

/-- The map holds what is last at each address. -/
structure MapV (es : Array MapEntry) (ck : Nat) (D : List En) : Prop where
  keys : ∀ e ∈ es.toList, ∃ a v : Int, e.key = .int .i64 a ∧ e.val = .int .i64 v ∧ lastE D a = some v
  all : ∀ a, lastE D a ≠ none → ∃ e ∈ es.toList, e.key = .int .i64 a
  st : Go.MapKept.Stamped es ck
  size : es.size ≤ D.length

theorem MapV.ints {es : Array MapEntry} {ck : Nat} {D : List En} (h : MapV es ck D) : IntKeys es.toList := fun e he => by
  obtain ⟨a, v, h1, -⟩ := h.keys e he
  exact ⟨a, h1⟩

theorem MapV.push {es : Array MapEntry} {ck : Nat} {D : List En} (h : MapV es ck D) (a v : Int) (hn : ∀ x ∈ es.toList, x.key ≠ .int .i64 a) : MapV (es.push { key := .int .i64 a, val := .int .i64 v, born := ck }) (ck + 1) (D ++ [(a, v)]) := by
  refine ⟨?_, ?_, Go.MapKept.stamped_push h.st hn, ?_⟩
  · intro e he
    rw [Array.toList_push, List.mem_append, List.mem_singleton] at he
    rcases he with he | rfl
    · obtain ⟨b, u, h1, h2, h3⟩ := h.keys e he
      refine ⟨b, u, h1, h2, ?_⟩
      rw [lastE_snoc, if_neg fun e' => hn e he (by rw [h1]; exact congrArg _ e'.symm)]; exact h3
    · exact ⟨a, v, rfl, rfl, by rw [lastE_snoc, if_pos rfl]⟩
  · intro b hb
    rw [lastE_snoc] at hb
    by_cases hab : a = b
    · subst hab; exact ⟨_, by rw [Array.toList_push, List.mem_append, List.mem_singleton]; exact .inr rfl, rfl⟩
    · rw [if_neg hab] at hb
      obtain ⟨e, he, h1⟩ := h.all b hb
      exact ⟨e, by rw [Array.toList_push, List.mem_append]; exact .inl he, h1⟩
  · rw [Array.size_push, List.length_append]; have := h.size; simp; omega

theorem MapV.turn {es : Array MapEntry} {ck : Nat} {D : List En} (h : MapV es ck D) (a v : Int) {n : Nat} {x : MapEntry} (hx : es[n]? = some x) (hk : x.key = .int .i64 a) :
    MapV (es.modify n fun e => { e with key := .int .i64 a, val := .int .i64 v }) ck (D ++ [(a, v)]) := by
  have hget : ∀ j e, (es.modify n fun e => { e with key := .int .i64 a, val := .int .i64 v })[j]? = some e → (j = n ∧ e = { x with key := .int .i64 a, val := .int .i64 v }) ∨ (j ≠ n ∧ es[j]? = some e) := by
    intro j e he
    rw [Array.getElem?_modify] at he
    split at he
    · rename_i hj; subst hj; rw [hx] at he; simp at he; exact .inl ⟨rfl, he.symm⟩
    · rename_i hj; exact .inr ⟨fun h => hj h.symm, he⟩
  have hone : ∀ j e, es[j]? = some e → e.key = .int .i64 a → j = n := by
    intro j e he hek
    have h1 := h.st.2.2
    have a1 : (es.toList.map (·.key))[j]? = some (.int .i64 a) := by rw [List.getElem?_map, Array.getElem?_toList, he]; exact congrArg some hek
    have a2 : (es.toList.map (·.key))[n]? = some (.int .i64 a) := by rw [List.getElem?_map, Array.getElem?_toList, hx]; exact congrArg some hk
    exact (List.getElem?_inj (List.getElem?_eq_some_iff.1 a1).1 h1).1 (a1.trans a2.symm)
  refine ⟨?_, ?_, Go.MapKept.stamped_modify h.st n _ (fun _ _ => rfl) (fun e he hne => ?_), ?_⟩
  · intro e he
    obtain ⟨j, hj⟩ := List.mem_iff_getElem?.1 he
    rw [Array.getElem?_toList] at hj
    rcases hget j e hj with ⟨rfl, rfl⟩ | ⟨hjn, hj⟩
    · exact ⟨a, v, rfl, rfl, by rw [lastE_snoc, if_pos rfl]⟩
    · obtain ⟨b, u, h1, h2, h3⟩ := h.keys e (List.mem_iff_getElem?.2 ⟨j, by rw [Array.getElem?_toList]; exact hj⟩)
      refine ⟨b, u, h1, h2, ?_⟩
      rw [lastE_snoc, if_neg fun e' => hjn (hone j e hj (by rw [h1]; exact congrArg _ e'.symm))]; exact h3
  · intro b hb
    have hnew : (es.modify n fun e => { e with key := .int .i64 a, val := .int .i64 v })[n]? = some { x with key := .int .i64 a, val := .int .i64 v } := by
      rw [Array.getElem?_modify, if_pos rfl, hx]; rfl
    by_cases hab : a = b
    · subst hab; exact ⟨_, List.mem_iff_getElem?.2 ⟨n, by rw [Array.getElem?_toList]; exact hnew⟩, rfl⟩
    · rw [lastE_snoc, if_neg hab] at hb
      obtain ⟨e, he, h1⟩ := h.all b hb
      obtain ⟨j, hj⟩ := List.mem_iff_getElem?.1 he
      rw [Array.getElem?_toList] at hj
      have hjn : n ≠ j := fun e' => by
        subst e'; rw [hx] at hj; cases hj; rw [hk] at h1; injection h1 with _ h1; exact hab h1
      refine ⟨e, List.mem_iff_getElem?.2 ⟨j, ?_⟩, h1⟩
      rw [Array.getElem?_toList, Array.getElem?_modify, if_neg hjn]; exact hj
  · rw [hx] at hne; cases hne; exact hk.symm
  · rw [Array.size_modify, List.length_append]; have := h.size; simp; omega

section

variable {c : Cx} {Γ Δ : List HProp} {w : World} {P : Program}

/-- m[a], where there is one. -/
theorem bn_mapGet {K : Value → World → Prop} {t k e r ck : Nat} {es : Array MapEntry} {a v : Int} {D : List En} [hm : MapI P t k e] (H : Sat c Γ w) (hf : Has Γ (obj r (.map es ck)) Δ) (hV : MapV es ck D) (ha : lastE D a = some v)
    (h : K (.int .i64 v) w) : Bn P (Instr.lookup t (.map (some r)) (.int .i64 a) false) w K := by
  obtain ⟨h1, h2⟩ := mapT_spec hm.is
  have hb := H.objAt hf
  refine ⟨_, _, ?_, h⟩
  cases hfd : findI a es.toList 0 with
  | none =>
    obtain ⟨e, he, hek⟩ := hV.all a (by rw [ha]; simp)
    exact absurd hek (findI_none hfd e he)
  | some p =>
    obtain ⟨j, u⟩ := p
    obtain ⟨n, x, hj, hx, hxk, hxv⟩ := findI_some hfd
    obtain ⟨b, u', g1, g2, g3⟩ := hV.keys x (List.mem_iff_getElem?.2 ⟨n, hx⟩)
    rw [g1] at hxk; injection hxk with _ hxk
    subst hxk
    rw [ha] at g3; cases g3
    rw [g2] at hxv; subst hxv
    simp [Instr.lookup, run_underlying h1, run_getObj hb, checkKey_int h2, findKey_int h2 b _ hV.ints, hfd]

end

/-! ### slices.Sorted(maps.Keys(m)) -/

/-- How an element reads: in no way that matters. -/
def anyR : Value → Option (DataW Unit × List MemPlace) := fun _ => some (.nil, [])

theorem wf_i64 {a : Int} (h : i64 a) : (Lit.int .i64 a).wf = true := by
  unfold i64 at h
  simp only [Lit.wf, Bool.and_eq_true, decide_eq_true_eq]
  exact ⟨by have : IntKind.min .i64 = -9223372036854775808 := by decide
            omega, by have : IntKind.max .i64 = 9223372036854775807 := by decide
                      omega⟩

theorem sorts_any (m : Nat) : AnyZI.SortsIn Tryd.prog Tryd.sortedA_ren Fence.wide m :=
  ⟨fun blk off cap ss W hH hblk hsz => callsIn_wide.2 (AnyM.slices_Sort_int Tryd.sortA blk off cap ss W hH hblk hsz),
   fun p cap W => callsIn_wide.2 (AnyM.slices_Sort_int_none Tryd.sortA p cap W)⟩

theorem keyLit {P : Program} {k : Nat} (hk : P.underlying k = some (.int .i64)) {es : Array MapEntry} {ck : Nat} {D : List En} (hV : MapV es ck D) (hD : ∀ x ∈ D, i64 x.1) {e : MapEntry} (he : e ∈ es.toList) :
    ∃ a : Int, e.key = .int .i64 a ∧ lastE D a ≠ none ∧ Go.WideElems.rd P k anyR e = some (.int .i64 a, .nil) := by
  obtain ⟨a, v, h1, h2, h3⟩ := hV.keys e he
  refine ⟨a, h1, by rw [h3]; simp, ?_⟩
  have ha : i64 a := by
    unfold lastE at h3
    cases hf : D.reverse.find? (fun x => x.1 == a) with
    | none => rw [hf] at h3; cases h3
    | some x =>
      have h4 := List.find?_some hf
      have h5 := List.mem_of_find?_eq_some hf
      rw [beq_iff_eq] at h4
      rw [← h4]
      exact hD x (List.mem_reverse.1 h5)
  simp [Go.WideElems.rd, keyOf, mapKey, hk, h1, wf_i64 ha, anyR]

section

variable {c : Cx} {Γ Δ Ω : List HProp} {w : World}

theorem Sat.row {e sz n : Nat} {v : Value} {xs : List Value} {w' : World} {base : Nat} (H : Sat c Γ w) (hb : Below w.heap.size w w') (hr : w'.ownsRow base e sz v n xs) (hbase : w.heap.size ≤ base) : Sat c (ownS e sz v n xs :: Γ) w' := by
  have H' := H.below hb
  refine { H' with own := ?_ }
  obtain ⟨hl, hr⟩ := hr
  rcases hr with ⟨rfl, hn⟩ | ⟨g, cap, cur, rfl, hg, hblk, h1, h2, h3, h4⟩
  · have hx : xs = [] := List.eq_nil_of_length_eq_zero (by rw [hl, hn, Nat.zero_mul])
    subst hn; subst hx
    exact ⟨fun _ => none, _, fun k => .inr ⟨rfl, rfl⟩, ownS_nil e sz none _, H'.own⟩
  · have hng : c.ro g = none := by
      cases h : c.ro g with
      | none => rfl
      | some o =>
        have := H.ro g o h
        rw [Array.getElem?_eq_none (by omega)] at this; cases this
    refine ⟨fun k => if k = g then w'.heap[g]? else none, fun k => if k = g then none else restH c w' k, ?_, ⟨hl, .inr ⟨g, cap, cur.toList.drop (n * sz), rfl, h1, ?_, ?_⟩⟩, ?_⟩
    · intro k
      by_cases hk : k = g
      · subst hk; left; simp [restH, hng]
      · right; simp [hk]
    · rw [← h4, List.take_append_drop, Array.length_toList]; exact h3
    · show (if g = g then w'.heap[g]? else none) = _
      rw [if_pos rfl, hblk, ← h4, List.take_append_drop, Array.toArray_toList]
    · refine stars_mono H.own fun k o hk => ?_
      unfold restH at hk
      split at hk
      · cases hk
      · rename_i hro
        have hlt : k < w.heap.size := by
          rcases Nat.lt_or_ge k w.heap.size with h | h
          · exact h
          · rw [Array.getElem?_eq_none h] at hk; cases hk
        have hne : k ≠ g := by omega
        show (if k = g then none else restH c w' k) = _
        rw [if_neg hne]
        unfold restH
        rw [if_neg hro, hb.block k hlt]; exact hk

/-- What maps.Keys hands back. -/
def keysV (b : Nat) : Value := .func (.func 68) #[] #[.pointer (some ⟨b, 0, none⟩)]

theorem Keys_sp (mb : Nat) (H : Sat c Γ w) : Calls Tryd.prog 55 #[.map (some mb)] w (Rt fun u w' => ∃ b, u = keysV b ∧ Sat c (blk b [.map (some mb)] 100 :: Γ) w') := by
  refine (callsIn_wide (n := 5)).1 ((AnyZI.keys_in Tryd.keysA Fence.wide 5 trivial rfl (some mb) w).mono ?_)
  rintro e w' ⟨rfl, rfl⟩
  exact ⟨_, rfl, w.heap.size, rfl, H.new _⟩

theorem Sorted_sp {mb b ck : Nat} {es : Array MapEntry} {D : List En} (hV : MapV es ck D) (hD : ∀ x ∈ D, i64 x.1) (hn : D.length ≤ 1000000) (H : Sat c Γ w) (hb : Has Γ (blk b [.map (some mb)] 100) Δ) (hm : Has Γ (obj mb (.map es ck)) Ω) :
    Calls Tryd.prog 54 #[keysV b] w (Rt fun u w' => ∃ ks : List Int, ks.Pairwise (· < ·) ∧ (∀ a, a ∈ ks ↔ lastE D a ≠ none) ∧ Sat c (ownS 3 1 u ks.length ((ks.map intC).flatten) :: Γ) w') := by
  have hblk := H.blkAt hb
  have hmap := H.objAt hm
  have hlt : b < w.heap.size := by
    rcases Nat.lt_or_ge b w.heap.size with h | h
    · exact h
    · rw [Array.getElem?_eq_none h] at hblk; cases hblk
  have hk : Tryd.prog.underlying 3 = some (.int .i64) := by kernel_rfl
  let L := es.toList.map (Go.WideElems.rg Tryd.prog 3 anyR)
  have hown : w.ownsMap Tryd.prog 3 anyR mb es.size (.map (L.foldr DataW.insert [])) := by
    refine ⟨es, ck, hmap, ⟨by have := hV.size; unfold maxLen; omega, hV.st, fun x hx => ?_⟩, Nat.le_refl _, rfl⟩
    obtain ⟨a, h1, h2, h3⟩ := keyLit hk hV hD hx
    exact ⟨_, h3⟩
  have hkeys : (intKeys (DataW.map (L.foldr DataW.insert []) : DataW Unit)).Perm (es.toList.map fun e => match e.key with | .int _ a => a | _ => 0) := by
    refine ((Go.WideShapes.sorted_perm L).map fun p => Go.intOf p.1).trans ?_
    rw [List.map_map]
    refine List.Perm.of_eq (List.map_congr_left fun e he => ?_)
    obtain ⟨a, h1, h2, h3⟩ := keyLit hk hV hD he
    show Go.intOf (Go.WideElems.rg Tryd.prog 3 anyR e).1 = _
    rw [Go.WideElems.rg_of h3, h1]; rfl
  have hsz : Go.Maps.size (DataW.map (L.foldr DataW.insert []) : DataW Unit) = es.size := by
    show (L.foldr DataW.insert []).length = _
    rw [(Go.WideShapes.sorted_perm L).length_eq]; simp [L]
  have hseq := AnyZI.keys_gives (ρ := Tryd.keysA_ren) { Tryd.keysA with } Fence.wide 2 trivial rfl (by omega) b mb es.size _ w hlt (H.cell hb rfl) hown
  have cS := AnyZI.sorted_in Tryd.sortedA Fence.wide 5 trivial trivial trivial trivial rfl (by omega) (sorts_any _) (enters_of Tryd.func49 (by kernel_rfl) rfl) 68 #[.pointer (some ⟨b, 0, none⟩)] trivial (enters_of Tryd.func68 (by kernel_rfl) rfl) _ (Go.Maps.size (DataW.map (L.foldr DataW.insert []) : DataW Unit)) (by rw [hsz]; have := hV.size; unfold maxLen; omega) (by rw [hsz]; have := hV.size; omega) w hseq
  refine (callsIn_wide (n := 5)).1 (cS.mono ?_)
  rintro e w' ⟨v, ss, rfl, hS, hrow, -, hbel⟩
  refine ⟨v, rfl, ss.mergeSort (fun x y => decide (x ≤ y)), ?_, ?_, ?_⟩
  · have hnd : ss.Nodup := by
      refine (hS.trans hkeys).nodup_iff.2 ?_
      have h1 := hV.st.2.2
      rw [List.Nodup, List.pairwise_map] at h1 ⊢
      refine h1.imp_of_mem fun {x y} hx hy hne he => hne ?_
      obtain ⟨a, u1, h1, -⟩ := hV.keys x hx
      obtain ⟨a', u2, h1', -⟩ := hV.keys y hy
      rw [h1, h1'] at he ⊢
      simp at he
      rw [he]
    have hnd2 : (ss.mergeSort (fun x y => decide (x ≤ y))).Nodup := (List.mergeSort_perm ss _).nodup_iff.2 hnd
    have hs : (ss.mergeSort (fun x y => decide (x ≤ y))).Pairwise fun x y => decide (x ≤ y) = true := List.pairwise_mergeSort (by intro a b c; simp; omega) (by intro a b; simp; omega) ss
    exact (hs.and hnd2).imp fun {x y} h => by have h1 := h.1; have h2 := h.2; simp at h1; omega
  · intro a
    rw [List.mem_mergeSort, (hS.trans hkeys).mem_iff, List.mem_map]
    constructor
    · rintro ⟨e, he, rfl⟩
      obtain ⟨a, v, h1, -, h3⟩ := hV.keys e he
      rw [h1]; simp [h3]
    · intro ha
      obtain ⟨e, he, h1⟩ := hV.all a ha
      exact ⟨e, he, by rw [h1]⟩
  · have := H.row hbel hrow (Nat.le_refl _)
    rw [show (((ss.mergeSort (fun x y => decide (x ≤ y))).map intC).flatten) = (ss.mergeSort (fun x y => decide (x ≤ y))).map encZ by
      generalize ss.mergeSort (fun x y => decide (x ≤ y)) = l
      induction l with
      | nil => rfl
      | cons x l ih => rw [List.map_cons, List.flatten_cons, ih]; rfl, List.length_mergeSort]
    exact this

end

end Go.Proofs.YtlolaieolgmdnaaDoor
