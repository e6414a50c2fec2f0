/-
  The memory under test, changed: Fence.
-/
import Derived.Test.YtlolaieolgmdnaaDoorMG

namespace Go.Proofs.YtlolaieolgmdnaaDoor

open Go.RowKit
set_option linter.unusedVariables false
set_option linter.unusedSimpArgs false
set_option maxRecDepth 10000

def settleM (y : LineS) : LineS := settleL y y.mark.toNat
def fenceM (M : MemS) : MemS := ⟨M.L.map settleM, M.span, M.ev ++ [⟨4, 0, 0, 0, zer⟩]⟩

/-- Is the entry of line i no more to come? -/
def DoneAt (es : Array MapEntry) (seen : Array Nat) (i : Nat) : Prop := ∀ e ∈ (leftOf es seen).toList, e.key ≠ .int .i64 (i : Int)

/-- How many entries are to come. -/
def leftW (b r : Nat) (w : World) : Nat :=
  match w.heap[b]?, w.heap[r]? with
  | some (.mapIter _ _ seen _), some (.map es _) => (leftOf es seen).size
  | _, _ => 0

theorem left_le {es es' : Array MapEntry} {seen : Array Nat} (h : ∀ e ∈ es'.toList, e ∈ es.toList) (hn : (es'.toList.map (·.born)).Nodup) : (leftOf es' seen).size ≤ (leftOf es seen).size := by
  have h1 : (leftOf es' seen).toList.Nodup := by
    have hs : (leftOf es' seen).toList.Sublist es'.toList := by unfold leftOf; rw [Array.toList_filter]; exact List.filter_sublist
    exact hs.nodup (by
      rw [List.Nodup, List.pairwise_map] at hn
      exact hn.imp fun hne e => hne (by rw [e]))
  have h2 : (leftOf es' seen).toList ⊆ (leftOf es seen).toList := fun e he => by
    obtain ⟨a, b⟩ := mem_left he
    unfold leftOf
    rw [Array.toList_filter, List.mem_filter]
    exact ⟨h e a, by rw [b]; rfl⟩
  have := List.Nodup.length_le_of_subset h1 h2
  simpa using this

theorem mem_left_iff {es : Array MapEntry} {seen : Array Nat} {e : MapEntry} : e ∈ (leftOf es seen).toList ↔ e ∈ es.toList ∧ seen.contains e.born = false := by
  constructor
  · exact mem_left
  · rintro ⟨a, b⟩
    unfold leftOf
    rw [Array.toList_filter, List.mem_filter]
    exact ⟨a, by rw [b]; rfl⟩

theorem settleM_idle {y : LineS} (hy : y.ok) (hp : y.p = []) : settleM y = y := by
  have h1 := hy.m1
  have h0 := hy.m0
  rw [hp] at h1
  simp only [List.length_nil] at h1
  unfold settleM settleL
  rw [if_pos (by omega)]

open Classical in
/-- The lines while the busy ones are settled. -/
def Part (L0 L : List LineS) (es : Array MapEntry) (seen : Array Nat) : Prop := ∀ i : Nat, L[i]? = (L0[i]?).map fun y => if DoneAt es seen i then settleM y else y

section

variable {c : Cx} {Γ Δ : List HProp} {w : World} {m : Nat} {M : MemS} {bl cap mb ck : Nat} {sp : List Value} {Z : List (LineS × Value)} {n : Nat} {es : Array MapEntry} {span : Int} {ev : Value} {E : List Ev} {L : List LineS}

theorem Sat.leftW {it r since c0 ck : Nat} {seen : Array Nat} {Ω : List HProp} (H : Sat c Γ w) (hi : Has Γ (obj it (.mapIter (some r) since seen c0)) Δ) (hm : Has Γ (obj r (.map es ck)) Ω) : leftW it r w = (leftOf es seen).size := by
  unfold Go.Proofs.YtlolaieolgmdnaaDoor.leftW
  rw [H.objAt hi, H.objAt hm]

theorem Sat.mapAt (H : Sat c (MemE m M mb es ck :: Γ) w) : ∃ Δ, Sat c (obj mb (.map es ck) :: Δ) w := by
  obtain ⟨lv, ps, ev, h1, h2, H⟩ := H.openME
  exact ⟨_, H.get Has.n2⟩

theorem Fence_sp (hok : M.ok) (hT : TabC c) (H : Sat c (MemE m M mb es ck :: Γ) w) :
    Calls Tryd.prog 38 #[.pointer (some ⟨m, 0, none⟩)] w (Rt fun _ w' => Sat c (MemH m (fenceM M) :: Γ) w') := by
  refine memory_Memory_Fence_ok ?_
  unfold memory_Memory_Fence_w
  obtain ⟨lv, ps, ev, h1, h2, Ho⟩ := H.openME
  (with_reducible (repeat (first | refine pu_st ?_ | refine bn_st ?_)))
  refine bn_load1 (Ho.cell Has.n0 rfl) ?_
  refine bn_range Ho Has.n2 fun it w Ho => ?_
  have H : Sat c (MemE m M mb es ck :: obj it (.mapIter (some mb) ck #[] ck) :: Γ) w :=
    Sat.shutME (lv := lv) (ps := ps) (ev := ev) h1 h2 (Ho.pull (ps := [_, _, _, _, _]) (.cons Has.n1 (.cons Has.n1 (.cons Has.n1 (.cons Has.n1 (.cons Has.n1 .nil))))))
  have hp0 : Part M.L M.L es #[] := by
    intro i
    cases hi : M.L[i]? with
    | none => rfl
    | some y =>
      rw [Option.map_some]
      split
      · rename_i hd
        rw [settleM_idle (hok.line y (List.mem_of_getElem? hi))]
        refine Classical.byContradiction fun hne => ?_
        obtain ⟨e, he, hk⟩ := h2.all i y hi hne
        exact hd e (mem_left_iff.2 ⟨he, by simp⟩) hk
      · rfl
  refine ⟨fun w => ∃ (L : List LineS) (es' : Array MapEntry) (seen : Array Nat), Part M.L L es' seen ∧ Sat c (MemE m ⟨L, M.span, M.ev⟩ mb es' ck :: obj it (.mapIter (some mb) ck seen ck) :: Γ) w, fun w => leftW it mb w, ⟨M.L, es, #[], hp0, H⟩, ?_⟩
  intros
  rename_i w hI
  obtain ⟨L, es', seen, hpart, H⟩ := hI
  have hb := H.busy
  obtain ⟨lv, ps, ev, g1, g2, Ho⟩ := H.openME
  have hw0 := Ho.leftW Has.n5 Has.n2
  refine bn_next Ho Has.n5 Has.n2 hb.old (Nat.le_refl _) (fun hend w Ho => ?_) (fun e he w Ho => ?_)
  · (with_reducible (repeat (first | refine pu_st ?_ | refine bn_st ?_)))
    refine condB (fun h => by cases h) (fun _ => ?_)
    have H : Sat c (MemE m ⟨L, M.span, M.ev⟩ mb es' ck :: obj it (.mapIter (some mb) ck seen ck) :: Γ) w := Sat.shutME (M := ⟨L, M.span, M.ev⟩) (lv := lv) (ps := ps) (ev := ev) g1 g2 Ho
    refine pu_build (cs := evC ⟨4, 0, 0, 0, zer⟩) (by kernel_rfl) ?_
    refine Cl.of memory_Memory_note_en (note_sp (M := ⟨L, M.span, M.ev⟩) ⟨4, 0, 0, 0, zer⟩ hok.evs H) ?_
    rintro _ w H
    have hL : L = M.L.map settleM := by
      apply List.ext_getElem?
      intro i
      rw [hpart i, List.getElem?_map]
      cases M.L[i]? with
      | none => rfl
      | some y =>
        rw [Option.map_some, Option.map_some, if_pos]
        intro e he
        rw [hend] at he; simp at he
    subst hL
    exact ((H.hideM).get Has.n1).tail
  · (with_reducible (repeat (first | refine pu_st ?_ | refine bn_st ?_)))
    refine condB (fun _ => ?_) (fun h => by cases h)
    obtain ⟨he1, he2⟩ := mem_left he
    refine bn_entry Ho Has.n0 Has.n0 he1 hb.born ?_
    obtain ⟨n, hk, hv, y', hy', hp'⟩ := hb.keys e he1
    rw [hk, hv]
    (with_reducible (repeat (first | refine pu_st ?_ | refine bn_st ?_)))
    have H : Sat c (MemE m ⟨L, M.span, M.ev⟩ mb es' ck :: obj it (.mapIter (some mb) ck (seen.push e.born) ck) :: Γ) w :=
      Sat.shutME (M := ⟨L, M.span, M.ev⟩) (lv := lv) (ps := ps) (ev := ev) g1 g2 (Ho.pull (ps := [_, _, _, _, _]) (.cons Has.n2 (.cons Has.n2 (.cons Has.n1 (.cons Has.n1 (.cons Has.n1 .nil))))))
    have hnd : ¬ DoneAt es' seen n := fun hd => hd e he hk
    have hy : M.L[n]? = some y' := by
      have := hpart n
      rw [show L[n]? = some y' from hy'] at this
      cases hq : M.L[n]? with
      | none => rw [hq] at this; cases this
      | some q => rw [hq, Option.map_some, if_neg hnd] at this; exact this.symm
    have hyok := hok.line y' (List.mem_of_getElem? hy)
    have hlt : n < L.length := (List.getElem?_eq_some_iff.1 hy').1
    obtain ⟨bl, cap, sp, ps', p, ev', hps, hb2, hp, hcap, hsp, hpo, Hl⟩ := H.openLine (y := y') hy'
    have hz : (L.zip ps')[n]? = some (y', p) := by rw [List.getElem?_zip_eq_some]; exact ⟨hy', hp⟩
    refine bn_load1 (Hl.cell Has.n0 rfl) ?_
    refine pu_indexN hlt ?_
    rw [Nat.zero_add]
    (with_reducible (repeat (first | refine pu_st ?_ | refine bn_st ?_)))
    refine bn_load1 (v := .int .i64 y'.mark) (Hl.cell Has.n1 ?_) ?_
    · have := lineCell (z' := (y', p)) hz sp 10 (by omega)
      rw [set_same hz] at this
      rw [this]; rfl
    have hm0 := hyok.m0
    have hm1 := hyok.m1
    rw [show y'.mark = ((y'.mark.toNat : Nat) : Int) by omega]
    refine Cl.of memory_Memory_settle_en (settle_sp (M := ⟨L, M.span, M.ev⟩) y'.mark.toNat hy' hyok (by omega) hT H) ?_
    rintro _ w' ⟨es2, ck2, ho, H2⟩
    obtain ⟨o1, o2, rfl⟩ := ho ⟨e, he1, hk⟩
    have hb3 := H2.busy
    refine ⟨⟨_, es2, seen.push e.born, ?_, H2⟩, ?_⟩
    · intro i
      by_cases hi : i = n
      · subst hi
        rw [set_at hy', hy, Option.map_some, if_pos]
        · rfl
        · intro x hx hxk
          obtain ⟨a, b⟩ := mem_left hx
          have hxe : x = e := by
            have h5 := hb.one
            rw [List.Nodup, List.pairwise_map] at h5
            refine Classical.byContradiction fun hne => ?_
            obtain ⟨i1, hi1⟩ := List.mem_iff_getElem?.1 (o1 x a)
            obtain ⟨i2, hi2⟩ := List.mem_iff_getElem?.1 he1
            have a1 : (es'.toList.map (·.key))[i1]? = some (.int .i64 (i : Int)) := by rw [List.getElem?_map, hi1]; exact congrArg some hxk
            have a2 : (es'.toList.map (·.key))[i2]? = some (.int .i64 (i : Int)) := by rw [List.getElem?_map, hi2]; exact congrArg some hk
            have := (List.getElem?_inj (List.getElem?_eq_some_iff.1 a1).1 hb.one).1 (a1.trans a2.symm)
            subst this
            rw [hi1] at hi2; cases hi2; exact hne rfl
          subst hxe
          simp at b
      · rw [List.getElem?_set_ne (fun e => hi e.symm), hpart i]
        have hdd : DoneAt es2 (seen.push e.born) i ↔ DoneAt es' seen i := by
          constructor
          · intro hd x hx hxk
            obtain ⟨a, b⟩ := mem_left hx
            have hxn : x.key ≠ .int .i64 (n : Int) := fun h => hi (by rw [hxk] at h; injection h with _ h; omega)
            refine hd x (mem_left_iff.2 ⟨o2 x a hxn, ?_⟩) hxk
            rw [Array.contains_push, b, Bool.false_or, beq_eq_false_iff_ne]
            intro hbn
            have : x = e := by
              have h5 := hb.born
              obtain ⟨i1, hi1⟩ := List.mem_iff_getElem?.1 a
              obtain ⟨i2, hi2⟩ := List.mem_iff_getElem?.1 he1
              have a1 : (es'.toList.map (·.born))[i1]? = some e.born := by rw [List.getElem?_map, hi1]; exact congrArg some hbn
              have a2 : (es'.toList.map (·.born))[i2]? = some e.born := by rw [List.getElem?_map, hi2]; rfl
              have := (List.getElem?_inj (List.getElem?_eq_some_iff.1 a1).1 h5).1 (a1.trans a2.symm)
              subst this
              rw [hi1] at hi2; cases hi2; rfl
            subst this
            exact hxn hk
          · intro hd x hx hxk
            obtain ⟨a, b⟩ := mem_left hx
            rw [Array.contains_push, Bool.or_eq_false_iff] at b
            exact hd x (mem_left_iff.2 ⟨o1 x a, b.1⟩) hxk
        cases M.L[i]? with
        | none => rfl
        | some q =>
          rw [Option.map_some, Option.map_some]
          by_cases hd : DoneAt es' seen i
          · rw [if_pos hd, if_pos (hdd.2 hd)]
          · rw [if_neg hd, if_neg (mt hdd.1 hd)]
    · obtain ⟨D1, Hm⟩ := Sat.mapAt H2
      have hw1 : leftW it mb w' = (leftOf es2 (seen.push e.born)).size := by
        obtain ⟨lv, ps, ev, g1, g2, Ho2⟩ := H2.openME
        exact Ho2.leftW Has.n5 Has.n2
      show leftW it mb w' < leftW it mb _
      rw [hw1]
      refine Nat.lt_of_le_of_lt (left_le o1 hb3.born) ?_
      rw [hw0]
      exact left_shrinks es' seen e he

end

end Go.Proofs.YtlolaieolgmdnaaDoor
