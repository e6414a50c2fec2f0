/-
  The memory under test: Copy.
-/
import Derived.Test.YtlolaieolgmdnaaDoorMH

namespace Go.Proofs.YtlolaieolgmdnaaDoor

open Go.RowKit
set_option linter.unusedVariables false
set_option linter.unusedSimpArgs false
set_option maxRecDepth 10000

section

variable {P : Program} {K : Value → World → Prop} {w : World} {c : Cx} {Γ Δ Ω : List HProp}

theorem At.objAt {b : Nat} {o : Obj} (h : At c (obj b o)) (H : Sat c Γ w) : w.heap[b]? = some o := H.roAt h.ro

/-- A range over a map that is lent. -/
theorem bn_rangeR {t k e r ck : Nat} {es : Array MapEntry} [hm : MapI P t k e] (H : Sat c Γ w) (hf : At c (obj r (.map es ck)))
    (h : ∀ b w', Sat c (obj b (.mapIter (some r) ck #[] ck) :: Γ) w' → K (.pointer (some ⟨b, 0, none⟩)) w') : Bn P (Instr.range t (.map (some r))) w K := by
  obtain ⟨h1, h2⟩ := mapT_spec hm.is
  have hb := hf.objAt H
  refine ⟨_, _, ?_, h _ _ (H.new (.mapIter (some r) ck #[] ck))⟩
  simp [Instr.range, run_underlying h1, run_getObj hb]

theorem bn_nextR {b r since c0 ck ty : Nat} {seen : Array Nat} {es : Array MapEntry} (H : Sat c Γ w) (hi : Has Γ (obj b (.mapIter (some r) since seen c0)) Δ) (hm : At c (obj r (.map es ck)))
    (hold : ∀ x ∈ es.toList, x.born < since) (hsc : since ≤ c0)
    (hend : leftOf es seen = #[] → ∀ w', Sat c Γ w' → K (.tuple #[.bool false]) w')
    (hgo : ∀ e ∈ (leftOf es seen).toList, ∀ w', Sat c (obj b (.mapIter (some r) since (seen.push e.born) ck) :: Δ) w' → K (.tuple #[.bool true, e.key, e.val]) w') :
    Bn P (Instr.next (.pointer (some ⟨b, 0, none⟩)) false ty) w K := by
  have H2 := H.get hi
  have hbi := H.objAt hi
  have hbm := hm.objAt H
  have e1 : ∀ L : Array MapEntry, (∀ x ∈ L.toList, x.born < since) → L.filter (fun x => decide (x.born < since)) = L := fun L h => Array.filter_eq_self.2 (fun x hx => by simpa using h x (by simpa using hx))
  have e2 : ∀ L : Array MapEntry, (∀ x ∈ L.toList, x.born < since) → L.filter (fun x => decide (x.born ≥ since)) = #[] := fun L h => by
    rw [Array.filter_eq_empty_iff]
    intro x hx
    have := h x (by simpa using hx)
    simp
    omega
  have hmem : ∀ x ∈ (leftOf es seen).toList, x.born < since := fun x hx => hold x (by unfold leftOf at hx; simp at hx ⊢; exact hx.1)
  have hrun : (Instr.next (.pointer (some ⟨b, 0, none⟩)) false ty).run P w =
      (do
        let L := leftOf es seen
        match ((if L.isEmpty then #[none] else #[]) ++ L.map some)[← choose (.mapNext ((if L.isEmpty then #[none] else #[]) ++ L.map some).size)]? with
        | some (some e) =>
          Go.setObj b (.mapIter (some r) since (seen.push e.born) ck)
          pure (.tuple #[.bool true, e.key, e.val])
        | some none => pure (.tuple #[.bool false])
        | none => stuck "Next: no such candidate" : Sem Value).run P w := by
    have ht := next_test_false seen es since c0 hold hsc
    unfold Instr.next
    simp only [Sem.run_bind, run_getIter hbi, Result.andThen_ok, run_getObj hbm, ht, Bool.false_eq_true, if_false]
    have h1 := e1 _ hmem
    have h2 := e2 _ hmem
    unfold leftOf at h1 h2 ⊢
    simp only [h1, h2, Array.append_empty]
    rfl
  by_cases h0 : (leftOf es seen) = #[]
  · refine ⟨_, _, ?_, hend h0 w H⟩
    rw [hrun, h0]
    simp [choose, Sem.run, Question.forced]
  · have hne : (leftOf es seen).isEmpty = false := by simpa [Array.isEmpty_iff] using h0
    have hs0 : 0 < (leftOf es seen).size := Array.size_pos_iff.2 h0
    have hch : ∃ (j : Nat) (w1 : World), j < (leftOf es seen).size ∧ (w1 = w ∨ w1 = w.drew) ∧ (choose (Question.mapNext (leftOf es seen).size)).run P w = .ok j w1 := by
      by_cases hf : (leftOf es seen).size ≤ 1
      · exact ⟨0, w, by omega, .inl rfl, by simp [choose, Sem.run, Question.forced, hf]⟩
      · exact ⟨_, w.drew, Nat.mod_lt _ (by omega), .inr rfl, by
          simp only [choose, Sem.run, Question.forced, decide_eq_true_eq, hf, if_false, Question.cut]
          rfl⟩
    obtain ⟨j, w1, hj, hw1, hrunc⟩ := hch
    have H3 : Sat c (obj b (.mapIter (some r) since seen c0) :: Δ) w1 := by
      rcases hw1 with rfl | rfl
      · exact H2
      · exact H2.drew
    obtain ⟨hs, H4⟩ := Sat.setObj (P := P) (o' := .mapIter (some r) since (seen.push (leftOf es seen)[j].born) ck) H3 .head (by intros; simp)
    refine ⟨_, _, ?_, hgo (leftOf es seen)[j] (by simp) _ H4⟩
    rw [hrun]
    simp only [hne, Bool.false_eq_true, if_false, Array.empty_append, Array.size_map, Sem.run_bind, hrunc, Result.andThen_ok, Array.getElem?_map, Array.getElem?_eq_getElem hj, Option.map_some, hs, Sem.run_pure]

theorem bn_entryR {b r since ck : Nat} {seen : Array Nat} {es : Array MapEntry} {e : MapEntry} (H : Sat c Γ w) (hi : Has Γ (obj b (.mapIter (some r) since (seen.push e.born) ck)) Δ) (hm : At c (obj r (.map es ck)))
    (he : e ∈ es.toList) (hn : (es.toList.map (·.born)).Nodup) (h : K (.tuple #[e.key, e.val]) w) : Bn P (Instr.entry (.pointer (some ⟨b, 0, none⟩))) w K := by
  have hbi := H.objAt hi
  have hbm := hm.objAt H
  refine ⟨_, _, ?_, h⟩
  have hf : es.find? (·.born == e.born) = some e := by rw [← Array.find?_toList]; exact find_born e es.toList hn he
  simp [Instr.entry, run_getIter hbi, run_getObj hbm, hf]

/-! ### Families of atoms -/

theorem atoms_perm {A : List HProp} {n : Nat} {p : HProp} (h : A[n]? = some p) : A.Perm (p :: A.eraseIdx n) := by
  obtain ⟨hn, rfl⟩ := List.getElem?_eq_some_iff.1 h
  have e : A = A.take n ++ A[n] :: A.drop (n + 1) := by
    rw [← List.drop_eq_getElem_cons hn, List.take_append_drop]
  have e2 : A.eraseIdx n = A.take n ++ A.drop (n + 1) := List.eraseIdx_eq_take_drop_succ _ _
  rw [e2]
  conv => lhs; rw [e]
  exact List.perm_middle

theorem Sat.famSet {A : List HProp} {n : Nat} {p p' : HProp} (h : A[n]? = some p) (H : Sat c (p' :: big A :: Γ) w) : Sat c (big (A.set n p') :: Γ) w := by
  have H1 : Sat c (big A :: p' :: Γ) w := H.get (.tail .head)
  have H2 := (H1.bigOpen).perm ((atoms_perm h).append_right _)
  have H3 : Sat c (A.eraseIdx n ++ (p' :: Γ)) w := H2.tail
  have h' : (A.set n p')[n]? = some p' := by rw [List.getElem?_set_self']; rw [h]; rfl
  have he : (A.set n p').eraseIdx n = A.eraseIdx n := by
    apply List.ext_getElem?
    intro i
    rw [List.getElem?_eraseIdx, List.getElem?_eraseIdx]
    split
    · rw [List.getElem?_set_ne (by omega)]
    · rw [List.getElem?_set_ne (by omega)]
  refine Sat.bigShut (H3.perm ?_)
  refine List.Perm.trans ?_ ((atoms_perm h').append_right Γ).symm
  rw [he, List.cons_append]
  exact List.perm_middle

end

open Classical in
/-- The pends of a copy under way: those of the lines that are done. -/
noncomputable def famA (L : List LineS) (ps : List Value) (es : Array MapEntry) (seen : Array Nat) : List HProp :=
  (List.range L.length).map fun i => if DoneAt es seen i then (match L[i]?, ps[i]? with | some y, some p => pendH (y, p) | _, _ => prp True) else prp True

theorem famA_end {L : List LineS} {ps : List Value} {es : Array MapEntry} {seen : Array Nat} (hl : ps.length = L.length) (hd : ∀ i, DoneAt es seen i) : famA L ps es seen = (L.zip ps).map pendH := by
  apply List.ext_getElem?
  intro i
  unfold famA
  rw [List.getElem?_map, List.getElem?_map]
  by_cases hi : i < L.length
  · have h1 : L[i]? = some (L[i]'hi) := List.getElem?_eq_getElem _
    have h2 : ps[i]? = some (ps[i]'(by omega)) := List.getElem?_eq_getElem _
    rw [List.getElem?_range hi, (List.getElem?_zip_eq_some (z := (L[i]'hi, ps[i]'(by omega)))).2 ⟨h1, h2⟩]
    simp [hd i, h1, h2, hi]
  · rw [List.getElem?_eq_none (by simp; omega), List.getElem?_eq_none (by simp; omega)]; rfl

theorem famA_set {L : List LineS} {ps : List Value} {es : Array MapEntry} {seen : Array Nat} {n : Nat} {e : MapEntry} {y : LineS} {u : Value} (hy : L[n]? = some y) (hl : ps.length = L.length) (h1 : DoneAt es (seen.push e.born) n)
    (h2 : ∀ i, i ≠ n → (DoneAt es (seen.push e.born) i ↔ DoneAt es seen i)) : (famA L ps es seen).set n (pendH (y, u)) = famA L (ps.set n u) es (seen.push e.born) := by
  have hn : n < L.length := (List.getElem?_eq_some_iff.1 hy).1
  apply List.ext_getElem?
  intro i
  unfold famA
  by_cases hi : i = n
  · subst hi
    rw [List.getElem?_set_self', List.getElem?_map, List.getElem?_map, List.getElem?_range hn]
    have h3 : (ps.set i u)[i]? = some u := by rw [List.getElem?_set_self']; rw [List.getElem?_eq_getElem (by omega)]; rfl
    have hye : L[i] = y := (List.getElem?_eq_some_iff.1 hy).2
    simp [h1, hy, h3, hl, hn, hye]
  · rw [List.getElem?_set_ne (fun e => hi e.symm), List.getElem?_map, List.getElem?_map]
    by_cases hl2 : i < L.length
    · rw [List.getElem?_range hl2]
      have h3 : (ps.set n u)[i]? = ps[i]? := List.getElem?_set_ne (fun e => hi e.symm)
      simp only [Option.map_some, h3]
      by_cases hd : DoneAt es seen i
      · rw [if_pos hd, if_pos ((h2 i hi).2 hd)]
      · rw [if_neg hd, if_neg (mt (h2 i hi).1 hd)]
    · rw [List.getElem?_eq_none (by simp; omega)]; rfl

/-- The entry taken: its line is done, the others as before. -/
theorem done_step {es : Array MapEntry} {ck n : Nat} {L : List LineS} {seen : Array Nat} {e : MapEntry} (hb : BusyOk es ck L) (he : e ∈ (leftOf es seen).toList) (hk : e.key = .int .i64 (n : Int)) :
    DoneAt es (seen.push e.born) n ∧ ∀ i, i ≠ n → (DoneAt es (seen.push e.born) i ↔ DoneAt es seen i) := by
  obtain ⟨he1, he2⟩ := mem_left he
  have hbe : ∀ x ∈ es.toList, x.born = e.born → x = e := fun x a hbn => by
    obtain ⟨i1, hi1⟩ := List.mem_iff_getElem?.1 a
    obtain ⟨i2, hi2⟩ := List.mem_iff_getElem?.1 he1
    have a1 : (es.toList.map (·.born))[i1]? = some e.born := by rw [List.getElem?_map, hi1]; exact congrArg some hbn
    have a2 : (es.toList.map (·.born))[i2]? = some e.born := by rw [List.getElem?_map, hi2]; rfl
    have := (List.getElem?_inj (List.getElem?_eq_some_iff.1 a1).1 hb.born).1 (a1.trans a2.symm)
    subst this
    rw [hi1] at hi2; cases hi2; rfl
  constructor
  · intro x hx hxk
    obtain ⟨a, b⟩ := mem_left hx
    have hxe : x = e := by
      obtain ⟨i1, hi1⟩ := List.mem_iff_getElem?.1 a
      obtain ⟨i2, hi2⟩ := List.mem_iff_getElem?.1 he1
      have a1 : (es.toList.map (·.key))[i1]? = some (.int .i64 (n : Int)) := by rw [List.getElem?_map, hi1]; exact congrArg some hxk
      have a2 : (es.toList.map (·.key))[i2]? = some (.int .i64 (n : Int)) := by rw [List.getElem?_map, hi2]; exact congrArg some hk
      have := (List.getElem?_inj (List.getElem?_eq_some_iff.1 a1).1 hb.one).1 (a1.trans a2.symm)
      subst this
      rw [hi1] at hi2; cases hi2; rfl
    subst hxe
    simp at b
  · intro i hi
    constructor
    · intro hd x hx hxk
      obtain ⟨a, b⟩ := mem_left hx
      refine hd x (mem_left_iff.2 ⟨a, ?_⟩) hxk
      rw [Array.contains_push, b, Bool.false_or, beq_eq_false_iff_ne]
      intro hbn
      have := hbe x a hbn
      subst this
      rw [hk] at hxk
      injection hxk with _ hxk
      exact hi (by omega)
    · intro hd x hx hxk
      obtain ⟨a, b⟩ := mem_left hx
      rw [Array.contains_push, Bool.or_eq_false_iff] at b
      exact hd x (mem_left_iff.2 ⟨a, b.1⟩) hxk

open Classical in
/-- The lines of the copy that its map of busy lines speaks of. -/
noncomputable def linesA (L : List LineS) (es : Array MapEntry) (seen : Array Nat) : List LineS := (L.zipIdx).map fun x => if DoneAt es seen x.2 then x.1 else { x.1 with p := [] }

open Classical in
theorem linesA_get (L : List LineS) (es : Array MapEntry) (seen : Array Nat) (i : Nat) : (linesA L es seen)[i]? = (L[i]?).map fun y => if DoneAt es seen i then y else { y with p := [] } := by
  unfold linesA
  rw [List.getElem?_map, List.getElem?_zipIdx]
  cases L[i]? with
  | none => rfl
  | some y => simp

theorem linesA_end {L : List LineS} {es : Array MapEntry} {seen : Array Nat} (hd : ∀ i, DoneAt es seen i) : linesA L es seen = L := by
  apply List.ext_getElem?
  intro i
  rw [linesA_get]
  cases L[i]? with
  | none => rfl
  | some y => rw [Option.map_some, if_pos (hd i)]

open Classical in
theorem linesA_set {L : List LineS} {es : Array MapEntry} {seen : Array Nat} {n : Nat} {e : MapEntry} {y : LineS} (hy : L[n]? = some y) (h1 : DoneAt es (seen.push e.born) n)
    (h2 : ∀ i, i ≠ n → (DoneAt es (seen.push e.born) i ↔ DoneAt es seen i)) : (linesA L es seen).set n y = linesA L es (seen.push e.born) := by
  apply List.ext_getElem?
  intro i
  by_cases hi : i = n
  · subst hi
    have h3 : (linesA L es seen)[i]? = some (if DoneAt es seen i then y else { y with p := [] }) := by rw [linesA_get, hy]; rfl
    rw [set_at h3, linesA_get, hy, Option.map_some, if_pos h1]
  · rw [List.getElem?_set_ne (fun e => hi e.symm), linesA_get, linesA_get]
    cases L[i]? with
    | none => rfl
    | some z =>
      rw [Option.map_some, Option.map_some]
      by_cases hd : DoneAt es seen i
      · rw [if_pos hd, if_pos ((h2 i hi).2 hd)]
      · rw [if_neg hd, if_neg (mt (h2 i hi).1 hd)]

section

variable {c : Cx} {Γ Δ : List HProp} {w : World} {m : Nat} {M : MemS} {lv ev : Value} {ps : List Value} {mb ck : Nat} {es : Array MapEntry}

/-- How many entries of a map that stays are to come. -/
def leftI (b : Nat) (es : Array MapEntry) (w : World) : Nat :=
  match w.heap[b]? with
  | some (.mapIter _ _ seen _) => (leftOf es seen).size
  | _ => 0

theorem zip_set2 {L : List LineS} {ps : List Value} {n : Nat} {y : LineS} {u : Value} (hy : L[n]? = some y) (hl : ps.length = L.length) : (L.zip ps).set n (y, u) = L.zip (ps.set n u) := by
  have hn : n < L.length := (List.getElem?_eq_some_iff.1 hy).1
  apply List.ext_getElem?
  intro i
  by_cases hi : i = n
  · subst hi
    rw [List.getElem?_set_self', List.getElem?_eq_getElem (by simp; omega)]
    symm
    show (L.zip (ps.set i u))[i]? = some (y, u)
    rw [List.getElem?_zip_eq_some]
    exact ⟨hy, by rw [List.getElem?_set_self']; rw [List.getElem?_eq_getElem (by omega)]; rfl⟩
  · rw [List.getElem?_set_ne (fun e => hi e.symm)]
    rw [List.zip_eq_zipWith, List.zip_eq_zipWith, List.getElem?_zipWith, List.getElem?_zipWith, List.getElem?_set_ne (fun e => hi e.symm)]

theorem set_self_line {L : List LineS} {n : Nat} {y : LineS} (hy : L[n]? = some y) : L.set n y = L := by
  apply List.ext_getElem?
  intro i
  by_cases hi : i = n
  · subst hi; rw [set_at hy, hy]
  · rw [List.getElem?_set_ne (fun e => hi e.symm)]

theorem Copy_sp (hok : M.ok) (R : MemR c m M lv ps mb es ck ev) (H : Sat c Γ w) :
    Calls Tryd.prog 9 #[.pointer (some ⟨m, 0, none⟩)] w (Rt fun u w' => ∃ m2, u = .pointer (some ⟨m2, 0, none⟩) ∧ Sat c (MemH m2 M :: Γ) w') := by
  refine memory_Memory_Copy_ok ?_
  unfold memory_Memory_Copy_w
  have h1 := R.top
  have hrows : ∀ u ∈ ((M.L.zip ps).map lnC).flatten, u.oneCell' = true := by
    intro u hu
    obtain ⟨r, hr, hur⟩ := List.mem_flatten.1 hu
    obtain ⟨z, hz, rfl⟩ := List.mem_map.1 hr
    exact lnC_one (pend_one (R.pend z hz) H) u hur
  have hrl : (((M.L.zip ps).map lnC).flatten).length = M.L.length * 11 := by rw [rows_length lnC 11 lnC_len, List.length_zip, R.len, Nat.min_self]
  have hlL := hok.lines
  refine ⟨fun v w => ∃ m2 lv2 mb2 ev2, v = .pointer (some ⟨m2, 0, none⟩) ∧ Sat c (blk m2 [lv2, .map (some mb2), .int .i64 M.span, ev2] 61 :: obj mb2 (.map #[] 0) :: ownS 57 11 lv2 M.L.length (((M.L.zip ps).map lnC).flatten) ::
      ownS 77 12 ev2 M.ev.length ((M.ev.map evC).flatten) :: Γ) w, ?_, ?_⟩
  · (refine ⟨Sat _ _, Sat _ _, Sat.drew H, fun _ h => h, ?_⟩; (with_reducible (repeat (first | refine pu_st ?_ | refine bn_st ?_))))
    (refine ⟨_, fun w H => run_load1 (At.cell h1 H rfl), ?_⟩; (with_reducible (repeat (first | refine pu_st ?_ | refine bn_st ?_))))
    (refine ⟨_, fun w H => run_load1 (At.cell h1 H rfl), ?_⟩; (with_reducible (repeat (first | refine pu_st ?_ | refine bn_st ?_))))
    (refine ⟨_, fun w H => run_load1 (At.cell h1 H rfl), ?_⟩; (with_reducible (repeat (first | refine pu_st ?_ | refine bn_st ?_))))
    refine ⟨fun w H => ?_, fun w H => ?_, trivial⟩
    · refine Cl.of (by kernel_rfl) (cloneLn_sp R.lines.slR hrl hrows (by omega) H) ?_
      rintro lv2 w H
      (refine ⟨Sat _ _, Sat _ _, H, fun _ h => h, (by first | trivial | exact fun _ h => h | exact fun _ h => h.tail | exact fun _ h => h.tail.tail), ?_⟩; (with_reducible (repeat (first | refine pu_st ?_ | refine bn_st ?_))))
      refine ⟨fun w H => ?_, fun w H => ?_, trivial⟩
      · refine bn_map H fun mb2 w H => ?_
        (refine ⟨Sat _ _, Sat _ _, H, fun _ h => h, (by first | trivial | exact fun _ h => h | exact fun _ h => h.tail | exact fun _ h => h.tail.tail), ?_⟩; (with_reducible (repeat (first | refine pu_st ?_ | refine bn_st ?_))))
        (refine ⟨fun w H => ?_, trivial⟩; (with_reducible (repeat (first | refine pu_st ?_ | refine bn_st ?_))))
        refine Cl.of (by kernel_rfl) (cloneEv_sp R.evs.slR (rows_length evC 12 evC_len _) (all_one_rows evC _ (by simp [evC, Value.oneCell'])) hok.evs H) ?_
        rintro ev2 w H
        obtain ⟨a8, cap8, he8, -⟩ := H.slAt Has.n2
        obtain ⟨a9, cap9, he9, -⟩ := H.slAt Has.n0
        (refine ⟨Sat _ _, Sat _ _, H, fun _ h => h, (by first | trivial | exact fun _ h => h | exact fun _ h => h.tail | exact fun _ h => h.tail.tail), ?_⟩; (with_reducible (repeat (first | refine pu_st ?_ | refine bn_st ?_))))
        refine pu_build (cs := [lv2, .map (some mb2), .int .i64 M.span, ev2]) (by rw [he8, he9]; kernel_rfl) ?_
        (refine ⟨fun w H => ?_, trivial⟩; (with_reducible (repeat (first | refine pu_st ?_ | refine bn_st ?_))))
        refine bn_box (z := [lv2, .map (some mb2), .int .i64 M.span, ev2]) rfl H fun m2 w H => ?_
        (refine ⟨Sat _ _, Sat _ _, H, fun _ h => h, (by first | trivial | exact fun _ h => h | exact fun _ h => h.tail | exact fun _ h => h.tail.tail), ?_⟩; (with_reducible (repeat (first | refine pu_st ?_ | refine bn_st ?_))))
        (intro w H; (with_reducible (repeat (first | refine pu_st ?_ | refine bn_st ?_))))
        exact ⟨m2, lv2, mb2, ev2, rfl, H.pull (ps := [_, _, _, _]) (.cons Has.n0 (.cons Has.n1 (.cons Has.n1 (.cons Has.n0 .nil))))⟩
      · refine Cl.of (by kernel_rfl) (cloneEv_sp R.evs.slR (rows_length evC 12 evC_len _) (all_one_rows evC _ (by simp [evC, Value.oneCell'])) hok.evs H) ?_
        rintro ev2 w H
        (refine ⟨Sat _ _, Sat _ _, H, fun _ h => h, (by first | trivial | exact fun _ h => h | exact fun _ h => h.tail | exact fun _ h => h.tail.tail), ?_⟩; (with_reducible (repeat (first | refine pu_st ?_ | refine bn_st ?_))))
        (refine ⟨fun w H => ?_, trivial⟩; (with_reducible (repeat (first | refine pu_st ?_ | refine bn_st ?_))))
        refine bn_map H fun mb2 w H => ?_
        obtain ⟨a8, cap8, he8, -⟩ := H.slAt Has.n2
        obtain ⟨a9, cap9, he9, -⟩ := H.slAt Has.n1
        (refine ⟨Sat _ _, Sat _ _, H, fun _ h => h, (by first | trivial | exact fun _ h => h | exact fun _ h => h.tail | exact fun _ h => h.tail.tail), ?_⟩; (with_reducible (repeat (first | refine pu_st ?_ | refine bn_st ?_))))
        refine pu_build (cs := [lv2, .map (some mb2), .int .i64 M.span, ev2]) (by rw [he8, he9]; kernel_rfl) ?_
        (refine ⟨fun w H => ?_, trivial⟩; (with_reducible (repeat (first | refine pu_st ?_ | refine bn_st ?_))))
        refine bn_box (z := [lv2, .map (some mb2), .int .i64 M.span, ev2]) rfl H fun m2 w H => ?_
        (refine ⟨Sat _ _, Sat _ _, H, fun _ h => h, (by first | trivial | exact fun _ h => h | exact fun _ h => h.tail | exact fun _ h => h.tail.tail), ?_⟩; (with_reducible (repeat (first | refine pu_st ?_ | refine bn_st ?_))))
        (intro w H; (with_reducible (repeat (first | refine pu_st ?_ | refine bn_st ?_))))
        exact ⟨m2, lv2, mb2, ev2, rfl, H.pull (ps := [_, _, _, _]) (.cons Has.n0 (.cons Has.n0 (.cons Has.n1 (.cons Has.n0 .nil))))⟩
    · refine bn_map H fun mb2 w H => ?_
      (refine ⟨Sat _ _, Sat _ _, H, fun _ h => h, (by first | trivial | exact fun _ h => h | exact fun _ h => h.tail | exact fun _ h => h.tail.tail), ?_⟩; (with_reducible (repeat (first | refine pu_st ?_ | refine bn_st ?_))))
      (refine ⟨fun w H => ?_, trivial⟩; (with_reducible (repeat (first | refine pu_st ?_ | refine bn_st ?_))))
      refine Cl.of (by kernel_rfl) (cloneLn_sp R.lines.slR hrl hrows (by omega) H) ?_
      rintro lv2 w H
      (refine ⟨Sat _ _, Sat _ _, H, fun _ h => h, (by first | trivial | exact fun _ h => h | exact fun _ h => h.tail | exact fun _ h => h.tail.tail), ?_⟩; (with_reducible (repeat (first | refine pu_st ?_ | refine bn_st ?_))))
      (refine ⟨fun w H => ?_, trivial⟩; (with_reducible (repeat (first | refine pu_st ?_ | refine bn_st ?_))))
      refine Cl.of (by kernel_rfl) (cloneEv_sp R.evs.slR (rows_length evC 12 evC_len _) (all_one_rows evC _ (by simp [evC, Value.oneCell'])) hok.evs H) ?_
      rintro ev2 w H
      obtain ⟨a8, cap8, he8, -⟩ := H.slAt Has.n1
      obtain ⟨a9, cap9, he9, -⟩ := H.slAt Has.n0
      (refine ⟨Sat _ _, Sat _ _, H, fun _ h => h, (by first | trivial | exact fun _ h => h | exact fun _ h => h.tail | exact fun _ h => h.tail.tail), ?_⟩; (with_reducible (repeat (first | refine pu_st ?_ | refine bn_st ?_))))
      refine pu_build (cs := [lv2, .map (some mb2), .int .i64 M.span, ev2]) (by rw [he8, he9]; kernel_rfl) ?_
      (refine ⟨fun w H => ?_, trivial⟩; (with_reducible (repeat (first | refine pu_st ?_ | refine bn_st ?_))))
      refine bn_box (z := [lv2, .map (some mb2), .int .i64 M.span, ev2]) rfl H fun m2 w H => ?_
      (refine ⟨Sat _ _, Sat _ _, H, fun _ h => h, (by first | trivial | exact fun _ h => h | exact fun _ h => h.tail | exact fun _ h => h.tail.tail), ?_⟩; (with_reducible (repeat (first | refine pu_st ?_ | refine bn_st ?_))))
      (intro w H; (with_reducible (repeat (first | refine pu_st ?_ | refine bn_st ?_))))
      exact ⟨m2, lv2, mb2, ev2, rfl, H.pull (ps := [_, _, _, _]) (.cons Has.n0 (.cons Has.n2 (.cons Has.n1 (.cons Has.n0 .nil))))⟩
  · intros
    rename_i w hJ
    obtain ⟨m2, lv2, mb2, ev2, rfl, H⟩ := hJ
    (with_reducible (repeat (first | refine pu_st ?_ | refine bn_st ?_)))
    (refine bn_load1 (At.cell h1 H rfl) ?_; (with_reducible (repeat (first | refine pu_st ?_ | refine bn_st ?_))))
    refine bn_rangeR H R.map fun it w H => ?_
    have hd0 : ∀ i y, M.L[i]? = some y → DoneAt es #[] i → y.p = [] := fun i y hy hd => Classical.byContradiction fun hne => by
      obtain ⟨e, he, hk⟩ := R.busy.all i y hy hne
      exact hd e (mem_left_iff.2 ⟨he, by simp⟩) hk
    have H2 : Sat c (big (famA M.L ps es #[]) :: obj it (.mapIter (some mb) ck #[] ck) :: blk m2 [lv2, .map (some mb2), .int .i64 M.span, ev2] 61 :: obj mb2 (.map #[] 0) :: ownS 57 11 lv2 M.L.length (((M.L.zip ps).map lnC).flatten) ::
        ownS 77 12 ev2 M.ev.length ((M.ev.map evC).flatten) :: Γ) w := by
      refine Sat.bigNil H fun p hp => ?_
      obtain ⟨i, hi, rfl⟩ := List.mem_map.1 hp
      have hiL := List.mem_range.1 hi
      have e1 : M.L[i]? = some (M.L[i]'hiL) := List.getElem?_eq_getElem _
      have e2 : ps[i]? = some (ps[i]'(by rw [R.len]; exact hiL)) := List.getElem?_eq_getElem _
      split
      · rename_i hd
        rw [e1, e2]
        simp only
        have hp0 := hd0 i _ e1 hd
        obtain ⟨a, ha⟩ := R.ok.nil i _ _ e1 e2 hp0
        rw [ha]
        unfold pendH
        simp only [hp0]
        exact ownS_nil _ _ a _
      · trivial
    have hb0 : BusyOk #[] 0 (linesA M.L es #[]) := by
      refine ⟨by simp, fun i l hl hp => ?_, by simp, by simp, by simp⟩
      rw [linesA_get] at hl
      cases hq : M.L[i]? with
      | none => rw [hq] at hl; cases hl
      | some y =>
        rw [hq, Option.map_some] at hl
        injection hl with hl
        subst hl
        refine absurd ?_ hp
        split
        · rename_i hd; exact hd0 i y hq hd
        · rfl
    have H3 := H2.pull (ps := [_, _, _, _, _, _]) (.cons Has.n1 (.cons Has.n1 (.cons Has.n1 (.cons Has.n1 (.cons Has.n1 (.cons Has.n0 .nil))))))
    refine ⟨fun w => ∃ (seen : Array Nat) (ps2 : List Value) (es2 : Array MapEntry) (ck2 : Nat), PsOk M.L ps2 ∧ BusyOk es2 ck2 (linesA M.L es seen) ∧
      Sat c (obj it (.mapIter (some mb) ck seen ck) :: blk m2 [lv2, .map (some mb2), .int .i64 M.span, ev2] 61 :: obj mb2 (.map es2 ck2) :: ownS 57 11 lv2 M.L.length (((M.L.zip ps2).map lnC).flatten) ::
        ownS 77 12 ev2 M.ev.length ((M.ev.map evC).flatten) :: big (famA M.L ps2 es seen) :: Γ) w, fun w => leftI it es w, ⟨#[], ps, #[], 0, R.ok, hb0, H3⟩, ?_⟩
    clear H H2 H3 hb0 hd0
    intros
    rename_i w0 hI
    obtain ⟨seen, ps2, es2, ck2, hps2, hb2, H⟩ := hI
    have hw0 : leftI it es w0 = (leftOf es seen).size := by unfold leftI; rw [H.objAt Has.n0]
    refine bn_nextR H Has.n0 R.map R.busy.old (Nat.le_refl _) (fun hend w H => ?_) (fun e he w H => ?_)
    · (with_reducible (repeat (first | refine pu_st ?_ | refine bn_st ?_)))
      refine condB (fun h => by cases h) (fun _ => ?_)
      have hall : ∀ i, DoneAt es seen i := fun i e he => by rw [hend] at he; simp at he
      rw [famA_end hps2.len hall] at H
      rw [linesA_end hall] at hb2
      refine ⟨m2, rfl, Sat.shutM (lv := lv2) (ev := ev2) (mb := mb2) (ps := ps2) (es := es2) (ck := ck2) hps2 hb2 ?_⟩
      have h9 := H.tail.pull (ps := [_, _, _, _, _]) (.cons Has.n0 (.cons Has.n1 (.cons Has.n0 (.cons Has.n0 (.cons Has.n0 .nil)))))
      exact h9
    · (with_reducible (repeat (first | refine pu_st ?_ | refine bn_st ?_)))
      refine condB (fun _ => ?_) (fun h => by cases h)
      obtain ⟨he1, he2⟩ := mem_left he
      refine bn_entryR H Has.n0 R.map he1 R.busy.born ?_
      obtain ⟨n, hk, hv, y, hy, hp⟩ := R.busy.keys e he1
      obtain ⟨hdn, hdo⟩ := done_step R.busy he hk
      rw [hk, hv]
      (with_reducible (repeat (first | refine pu_st ?_ | refine bn_st ?_)))
      have hlt : n < M.L.length := (List.getElem?_eq_some_iff.1 hy).1
      obtain ⟨bl, o, cap, p, hlv, hle, hpp, hpe, hl⟩ := R.line H hy
      have hsl : SlR c p y.p.length ((y.p.map stC).flatten) := hpe.slR
      have hyok := hok.line y (List.mem_of_getElem? hy)
      obtain ⟨p2, hp2⟩ : ∃ p2, ps2[n]? = some p2 := ⟨ps2[n]'(by have := hps2.len; omega), List.getElem?_eq_getElem _⟩
      have hz : (M.L.zip ps2)[n]? = some (y, p2) := by rw [List.getElem?_zip_eq_some]; exact ⟨hy, hp2⟩
      obtain ⟨hll, hs⟩ := (H.get Has.n3).openS
      rcases hs with ⟨a, -, h0, -, -⟩ | ⟨bl2, cap2, sp, rfl, h3, h4, H⟩
      · omega
      have hlen : n * 11 + 11 ≤ (((M.L.zip ps2).map lnC).flatten ++ sp).length := by
        rw [List.length_append, rows_length lnC 11 lnC_len]
        have : (n + 1) * 11 ≤ (M.L.zip ps2).length * 11 := Nat.mul_le_mul_right _ (List.getElem?_eq_some_iff.1 hz).1
        omega
      -- blk bl2, it, m2, mb2, ev2, fam
      (refine ⟨Sat _ _, Sat _ _, Sat.drew H, fun _ h => h, ?_⟩; (with_reducible (repeat (first | refine pu_st ?_ | refine bn_st ?_))))
      (refine ⟨_, fun w H => run_load1 (H.cell Has.n2 rfl), ?_⟩; (with_reducible (repeat (first | refine pu_st ?_ | refine bn_st ?_))))
      (refine ⟨_, fun w H => run_load1 (At.cell h1 H rfl), ?_⟩; (with_reducible (repeat (first | refine pu_st ?_ | refine bn_st ?_))))
      rw [hlv]
      refine pu_indexN hlt ?_
      (with_reducible (repeat (first | refine pu_st ?_ | refine bn_st ?_)))
      (refine ⟨_, fun w H => run_load1 (hl.pend H), ?_⟩; (with_reducible (repeat (first | refine pu_st ?_ | refine bn_st ?_))))
      (refine ⟨fun w H => ?_, trivial⟩; (with_reducible (repeat (first | refine pu_st ?_ | refine bn_st ?_))))
      refine Cl.of (by kernel_rfl) (cloneSt_sp hsl (rows_length stC 2 stC_len _) (all_one_rows stC _ stC_one) hyok.few H) ?_
      rintro u w ⟨hu0, H⟩
      obtain ⟨a5, cap5, he5, -⟩ := H.slAt Has.n0
      (refine ⟨Sat _ _, Sat _ _, H, fun _ h => h, (by first | trivial | exact fun _ h => h | exact fun _ h => h.tail | exact fun _ h => h.tail.tail), ?_⟩; (with_reducible (repeat (first | refine pu_st ?_ | refine bn_st ?_))))
      refine pu_indexN hlt ?_
      rw [Nat.zero_add]
      (with_reducible (repeat (first | refine pu_st ?_ | refine bn_st ?_)))
      (refine ⟨fun w H => ?_, trivial⟩; (with_reducible (repeat (first | refine pu_st ?_ | refine bn_st ?_))))
      refine bn_store1 H Has.n1 (by omega) (by rw [he5]; rfl) fun w H => ?_
      (refine ⟨Sat _ _, Sat _ _, H, fun _ h => h, (by first | trivial | exact fun _ h => h | exact fun _ h => h.tail | exact fun _ h => h.tail.tail), ?_⟩; (with_reducible (repeat (first | refine pu_st ?_ | refine bn_st ?_))))
      (intro w H; (with_reducible (repeat (first | refine pu_st ?_ | refine bn_st ?_))))
      have hs9 := lineSet (z' := (y, p2)) (z'' := (y, u)) hz sp 9 u (by omega) rfl
      rw [set_same hz] at hs9
      rw [hs9, zip_set2 hy hps2.len] at H
      -- blk bl2, u, it, m2, mb2, ev2, fam
      refine bn_load1 (H.cell Has.n3 rfl) ?_
      obtain ⟨yl, hLn⟩ : ∃ yl, (linesA M.L es seen)[n]? = some yl := by rw [linesA_get, hy]; exact ⟨_, rfl⟩
      have hset := linesA_set hy hdn hdo
      have hps3 : PsOk M.L (ps2.set n u) := by
        have := hps2.set (y' := y) (p' := u) hy hp2 (fun h => absurd h hp)
        rwa [set_self_line hy] at this
      have hfin : ∀ {es2 : Array MapEntry} {ck2 : Nat} {w' : World}, BusyOk es2 ck2 ((linesA M.L es seen).set n y) → Sat c (obj mb2 (.map es2 ck2) :: blk bl2 (((M.L.zip (ps2.set n u)).map lnC).flatten ++ sp) 57 :: ownS 80 2 u y.p.length ((y.p.map stC).flatten) :: obj it (.mapIter (some mb) ck (seen.push e.born) ck) ::
          blk m2 [.slice (some ⟨bl2, 0, none⟩) M.L.length cap2, .map (some mb2), .int .i64 M.span, ev2] 61 :: ownS 77 12 ev2 M.ev.length ((M.ev.map evC).flatten) :: big (famA M.L ps2 es seen) :: Γ) w' →
          (fun w => ∃ (seen : Array Nat) (ps2 : List Value) (es2 : Array MapEntry) (ck2 : Nat), PsOk M.L ps2 ∧ BusyOk es2 ck2 (linesA M.L es seen) ∧
            Sat c (obj it (.mapIter (some mb) ck seen ck) :: blk m2 [.slice (some ⟨bl2, 0, none⟩) M.L.length cap2, .map (some mb2), .int .i64 M.span, ev2] 61 :: obj mb2 (.map es2 ck2) :: ownS 57 11 (.slice (some ⟨bl2, 0, none⟩) M.L.length cap2) M.L.length (((M.L.zip ps2).map lnC).flatten) ::
              ownS 77 12 ev2 M.ev.length ((M.ev.map evC).flatten) :: big (famA M.L ps2 es seen) :: Γ) w) w' ∧ (fun w => leftI it es w) w' < (fun w => leftI it es w) w0 := by
        intro es2 ck2 w' hb H
        rw [hset] at hb
        have hw1 : leftI it es w' = (leftOf es (seen.push e.born)).size := by unfold leftI; rw [H.objAt Has.n3]
        refine ⟨⟨seen.push e.born, ps2.set n u, es2, ck2, hps3, hb, ?_⟩, by show leftI it es w' < leftI it es w0; rw [hw1, hw0]; exact left_shrinks es seen e he⟩
        have hn2 : n < (famA M.L ps2 es seen).length := by unfold famA; simp; exact hlt
        have h5 := (H.pull (ps := [ownS 80 2 u y.p.length ((y.p.map stC).flatten), big (famA M.L ps2 es seen)]) (.cons Has.n2 (.cons Has.n5 .nil)))
        have h6 := Sat.famSet (p := (famA M.L ps2 es seen)[n]'hn2) (p' := pendH (y, u)) (List.getElem?_eq_getElem _) h5
        rw [famA_set hy hps2.len hdn hdo] at h6
        have hlz : (M.L.zip (ps2.set n u)).length = M.L.length := by rw [List.length_zip, List.length_set, hps2.len, Nat.min_self]
        have h7 := (h6.get Has.n2).shutS (n := M.L.length) (by rw [rows_length lnC 11 lnC_len, hlz]) h3 (by
          rw [List.length_append, rows_length lnC 11 lnC_len] at h4 ⊢
          rw [hlz]; rw [List.length_zip, hps2.len, Nat.min_self] at h4; exact h4)
        exact h7.pull (ps := [_, _, _, _, _, _]) (.cons Has.n3 (.cons Has.n3 (.cons Has.n2 (.cons Has.n0 (.cons Has.n1 (.cons Has.n0 .nil))))))
      refine bn_mapPut H Has.n4 hb2.ints (fun hno w H => ?_) (fun j x hj hx w H => ?_)
      · exact hfin (hb2.push hLn hp hno) H
      · exact hfin (hb2.turn hLn hp hj hx) H

end

end Go.Proofs.YtlolaieolgmdnaaDoor
