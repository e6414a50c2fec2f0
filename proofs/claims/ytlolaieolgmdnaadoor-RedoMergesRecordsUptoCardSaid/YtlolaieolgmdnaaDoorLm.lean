/-
  Maps from ints: put, delete, range, next, entry, as things owned.
-/
import Derived.Test.YtlolaieolgmdnaaDoorLw
import Derived.Laws.IdiomRangeMap
namespace Go.Proofs.YtlolaieolgmdnaaDoor
open Go.RowKit
set_option linter.unusedVariables false
set_option linter.unusedSimpArgs false

def mapT (P : Program) (t : Nat) : Option (Nat × Nat) :=
  match P.underlying t with
  | some (.map k e) =>
    match P.underlying k with
    | some (.int .i64) => some (k, e)
    | _ => none
  | _ => none
/-- A map from int. -/
class MapI (P : Program) (t : Nat) (k e : outParam Nat) : Prop where
  is : mapT P t = some (k, e)

section
variable {P : Program} {K : Value → World → Prop} {w : World} {c : Cx} {Γ Δ Ω : List HProp}

theorem mapT_spec {t k e : Nat} (h : mapT P t = some (k, e)) : P.underlying t = some (.map k e) ∧ P.underlying k = some (.int .i64) := by
  unfold mapT at h
  split at h
  · rename_i k' e' h1
    split at h
    · rename_i h2; cases h; exact ⟨h1, h2⟩
    · cases h
  · cases h

theorem run_getObj {r : Nat} {es : Array MapEntry} {ck : Nat} (h : w.heap[r]? = some (.map es ck)) : (getObj r).run P w = .ok (.map es ck) w := by
  simp only [getObj, Sem.run, h]
theorem run_getIter {r : Nat} {m : Option Nat} {a d : Nat} {s : Array Nat} (h : w.heap[r]? = some (.mapIter m a s d)) : (getObj r).run P w = .ok (.mapIter m a s d) w := by
  simp only [getObj, Sem.run, h]

/-- A block that is no row is laid anew. -/
theorem Sat.setObj {r : Nat} {o o' : Obj} (H : Sat c Γ w) (hf : Has Γ (obj r o) Δ) (hc : ∀ a b d, o ≠ .cells a b d) : (Go.setObj r o').run P w = .ok () { w with heap := w.heap.setIfInBounds r o' } ∧ Sat c (obj r o' :: Δ) { w with heap := w.heap.setIfInBounds r o' } := by
  have h := H.objAt hf
  have hlt : r < w.heap.size := by
    rcases Nat.lt_or_ge r w.heap.size with h' | h'
    · exact h'
    · rw [Array.getElem?_eq_none h'] at h; cases h
  refine ⟨?_, Sat.turn (H.get hf) rfl rfl rfl ?_ ?_⟩
  · cases o with
    | cells a b d => exact absurd rfl (hc a b d)
    | _ => simp only [Go.setObj, Sem.run, h]
  · show (w.heap.setIfInBounds r o')[r]? = _
    simp [hlt]
  · intro k hk
    show (w.heap.setIfInBounds r o')[k]? = _
    exact Array.getElem?_setIfInBounds_ne (Ne.symm hk)

theorem checkKey_int {b : Bool} {k : Nat} (hk : P.underlying k = some (.int .i64)) (a : Int) : (Instr.checkKey b 10000 k (.int .i64 a)).run P w = .ok () w := by
  have e : Instr.checkKey b 10000 k (.int .i64 a) = Instr.checkKey b (9999 + 1) k (.int .i64 a) := rfl
  rw [e]
  unfold Instr.checkKey
  simp [run_underlying hk]

/-- All keys are ints. -/
def IntKeys (es : List MapEntry) : Prop := ∀ e ∈ es, ∃ a : Int, e.key = .int .i64 a

def keyIs (a : Int) : Value → Bool
  | .int .i64 b => a == b
  | _ => false

theorem keyIs_iff {a : Int} {v : Value} : keyIs a v = true ↔ v = .int .i64 a := by
  unfold keyIs
  split
  · rename_i b
    constructor
    · intro h; have := beq_iff_eq.1 h; subst this; rfl
    · intro h; injection h with _ h; subst h; simp
  · rename_i h
    constructor
    · intro h; cases h
    · intro e; exact absurd e (h a)

/-- The first entry of a key: its place. -/
def findI (a : Int) : List MapEntry → Nat → Option (Nat × Value)
  | [], _ => none
  | e :: es, i => if keyIs a e.key = true then some (i, e.val) else findI a es (i + 1)

theorem findNow_int (a : Int) : ∀ (es : List MapEntry) (i : Nat), IntKeys es → Instr.findNow (.int .i64) (.int .i64 a) es i = some (findI a es i)
  | [], i, _ => rfl
  | e :: es, i, h => by
    obtain ⟨b, hb⟩ := h e (by simp)
    have ih := findNow_int a es (i + 1) (fun x hx => h x (by simp [hx]))
    simp only [Instr.findNow, findI, hb, Instr.sameNow, if_true]
    cases hab : a == b with
    | true => simp [keyIs, hab]
    | false => simp only [keyIs, hab, Bool.false_eq_true, if_false]; exact ih

theorem findKey_int {k : Nat} (hk : P.underlying k = some (.int .i64)) (a : Int) (es : List MapEntry) (h : IntKeys es) : (Instr.findKey k (.int .i64 a) es).run P w = .ok (findI a es 0) w := by
  unfold Instr.findKey
  simp [run_underlying hk, findNow_int a es 0 h]

theorem findI_none {a : Int} : ∀ {es : List MapEntry} {i : Nat}, findI a es i = none → ∀ e ∈ es, e.key ≠ .int .i64 a
  | [], _, _, e, he => by cases he
  | x :: es, i, h, e, he => by
    simp only [findI] at h
    split at h
    · cases h
    · rename_i hx
      rcases List.mem_cons.1 he with rfl | he
      · exact fun e => hx (keyIs_iff.2 e)
      · exact findI_none h e he

theorem findI_some {a : Int} : ∀ {es : List MapEntry} {i j : Nat} {v : Value}, findI a es i = some (j, v) → ∃ n e, j = i + n ∧ es[n]? = some e ∧ e.key = .int .i64 a ∧ e.val = v
  | [], _, _, _, h => by cases h
  | x :: es, i, j, v, h => by
    simp only [findI] at h
    split at h
    · rename_i hx
      cases h
      exact ⟨0, x, rfl, rfl, keyIs_iff.1 hx, rfl⟩
    · obtain ⟨n, e, h1, h2, h3⟩ := findI_some h
      exact ⟨n + 1, e, by omega, by simpa using h2, h3⟩

/-- m[a] = v -/
theorem bn_mapPut {t k e r ck : Nat} {es : Array MapEntry} {a : Int} {v : Value} [hm : MapI P t k e] (H : Sat c Γ w) (hf : Has Γ (obj r (.map es ck)) Δ) (hk : IntKeys es.toList)
    (hnew : (∀ x ∈ es.toList, x.key ≠ .int .i64 a) → ∀ w', Sat c (obj r (.map (es.push { key := .int .i64 a, val := v, born := ck }) (ck + 1)) :: Δ) w' → K undef w')
    (hold : ∀ n x, es[n]? = some x → x.key = .int .i64 a → ∀ w', Sat c (obj r (.map (es.modify n fun e => { e with key := .int .i64 a, val := v }) ck) :: Δ) w' → K undef w') :
    Bn P (unitV (Instr.mapUpdate t (.map (some r)) (.int .i64 a) v)) w K := by
  obtain ⟨h1, h2⟩ := mapT_spec hm.is
  have hb := H.objAt hf
  cases hfd : findI a es.toList 0 with
  | none =>
    obtain ⟨hs, H'⟩ := Sat.setObj (P := P) (o' := .map (es.push { key := .int .i64 a, val := v, born := ck }) (ck + 1)) H hf (by intros; simp)
    refine ⟨_, _, ?_, hnew (findI_none hfd) _ H'⟩
    simp [unitV, Instr.mapUpdate, run_underlying h1, run_getObj hb, checkKey_int h2, findKey_int h2 a _ hk, hfd, hs]
  | some p =>
    obtain ⟨j, u⟩ := p
    obtain ⟨n, x, hj, hx, hxk, hxv⟩ := findI_some hfd
    have hj : j = n := by omega
    subst hj
    obtain ⟨hs, H'⟩ := Sat.setObj (P := P) (o' := .map (es.modify j fun e => { e with key := .int .i64 a, val := v }) ck) H hf (by intros; simp)
    have hx' : es[j]? = some x := by simpa using hx
    refine ⟨_, _, ?_, hold j x hx' hxk _ H'⟩
    simp [unitV, Instr.mapUpdate, run_underlying h1, run_getObj hb, checkKey_int h2, findKey_int h2 a _ hk, hfd, hx', hxk, Instr.keyThatStays, Instr.sameBits, hs]

/-- delete(m, a) -/
theorem bn_mapDel {t k e r ck : Nat} {t2 ty : Nat} {es : Array MapEntry} {a : Int} [hm : MapI P t k e] (H : Sat c Γ w) (hf : Has Γ (obj r (.map es ck)) Δ) (hk : IntKeys es.toList)
    (hnone : (∀ x ∈ es.toList, x.key ≠ .int .i64 a) → ∀ w', Sat c (obj r (.map es ck) :: Δ) w' → K (.tuple #[]) w')
    (hsome : ∀ n x, es[n]? = some x → x.key = .int .i64 a → ∀ w', Sat c (obj r (.map (es.eraseIdxIfInBounds n) ck) :: Δ) w' → K (.tuple #[]) w') :
    Bn P (Builtin.delete_ #[t, t2] ty #[.map (some r), .int .i64 a]) w K := by
  obtain ⟨h1, h2⟩ := mapT_spec hm.is
  have hb := H.objAt hf
  cases hfd : findI a es.toList 0 with
  | none =>
    obtain ⟨hs, H'⟩ := Sat.setObj (P := P) (o' := .map es ck) H hf (by intros; simp)
    refine ⟨_, _, ?_, hnone (findI_none hfd) _ H'⟩
    simp [Builtin.delete_, run_underlying h1, run_getObj hb, checkKey_int h2, findKey_int h2 a _ hk, hfd, hs]
  | some p =>
    obtain ⟨j, u⟩ := p
    obtain ⟨n, x, hj, hx, hxk, hxv⟩ := findI_some hfd
    have hj : j = n := by omega
    subst hj
    obtain ⟨hs, H'⟩ := Sat.setObj (P := P) (o' := .map (es.eraseIdxIfInBounds j) ck) H hf (by intros; simp)
    have hx' : es[j]? = some x := by simpa using hx
    refine ⟨_, _, ?_, hsome j x hx' hxk _ H'⟩
    simp [Builtin.delete_, run_underlying h1, run_getObj hb, checkKey_int h2, findKey_int h2 a _ hk, hfd, hs]

/-- clear(m) -/
theorem bn_mapClear {t k e r ck ty : Nat} {es : Array MapEntry} [hm : MapI P t k e] (H : Sat c Γ w) (hf : Has Γ (obj r (.map es ck)) Δ)
    (h : ∀ w', Sat c (obj r (.map #[] ck) :: Δ) w' → K (.tuple #[]) w') : Bn P (Builtin.clear_ #[t] ty #[.map (some r)]) w K := by
  obtain ⟨h1, h2⟩ := mapT_spec hm.is
  have hb := H.objAt hf
  obtain ⟨hs, H'⟩ := Sat.setObj (P := P) (o' := .map #[] ck) H hf (by intros; simp)
  refine ⟨_, _, ?_, h _ H'⟩
  simp [Builtin.clear_, run_underlying h1, run_getObj hb, hs]

/-- for .. range m: the iterator. -/
theorem bn_range {t k e r ck : Nat} {es : Array MapEntry} [hm : MapI P t k e] (H : Sat c Γ w) (hf : Has Γ (obj r (.map es ck)) Δ)
    (h : ∀ b w', Sat c (obj b (.mapIter (some r) ck #[] ck) :: Γ) w' → K (.pointer (some ⟨b, 0, none⟩)) w') : Bn P (Instr.range t (.map (some r))) w K := by
  obtain ⟨h1, h2⟩ := mapT_spec hm.is
  have hb := H.objAt hf
  refine ⟨_, _, ?_, h _ _ (H.new (.mapIter (some r) ck #[] ck))⟩
  simp [Instr.range, run_underlying h1, run_getObj hb]

/-- The next entry, whichever; or none. -/
theorem bn_next {b r since c0 ck ty : Nat} {seen : Array Nat} {es : Array MapEntry} (H : Sat c Γ w) (hi : Has Γ (obj b (.mapIter (some r) since seen c0)) Δ) (hm : Has Δ (obj r (.map es ck)) Ω)
    (hold : ∀ x ∈ es.toList, x.born < since) (hsc : since ≤ c0)
    (hend : leftOf es seen = #[] → ∀ w', Sat c Γ w' → K (.tuple #[.bool false]) w')
    (hgo : ∀ e ∈ (leftOf es seen).toList, ∀ w', Sat c (obj b (.mapIter (some r) since (seen.push e.born) ck) :: obj r (.map es ck) :: Ω) w' → K (.tuple #[.bool true, e.key, e.val]) w') :
    Bn P (Instr.next (.pointer (some ⟨b, 0, none⟩)) false ty) w K := by
  have H1 := H.get hi
  have H2 : Sat c (obj b (.mapIter (some r) since seen c0) :: obj r (.map es ck) :: Ω) w := H1.perm ((hm.perm).cons _)
  have hbi := H.objAt hi
  have hbm := H2.objAt (.tail .head)
  have e1 : ∀ L : Array MapEntry, (∀ x ∈ L.toList, x.born < since) → L.filter (fun x => decide (x.born < since)) = L := fun L h => Array.filter_eq_self.2 (fun x hx => by simpa using h x (by simpa using hx))
  have e2 : ∀ L : Array MapEntry, (∀ x ∈ L.toList, x.born < since) → L.filter (fun x => decide (x.born ≥ since)) = #[] := fun L h => by
    rw [Array.filter_eq_empty_iff]
    intro x hx
    have := h x (by simpa using hx)
    simp
    omega
  have hmem : ∀ x ∈ (leftOf es seen).toList, x.born < since := fun x hx => hold x (by unfold leftOf at hx; simp at hx ⊢; exact hx.1)
  have hrun : (Instr.next (.pointer (some ⟨b, 0, none⟩)) false ty).run P w =
      (do
        let L := leftOf es seen
        match ((if L.isEmpty then #[none] else #[]) ++ L.map some)[← choose (.mapNext ((if L.isEmpty then #[none] else #[]) ++ L.map some).size)]? with
        | some (some e) =>
          Go.setObj b (.mapIter (some r) since (seen.push e.born) ck)
          pure (.tuple #[.bool true, e.key, e.val])
        | some none => pure (.tuple #[.bool false])
        | none => stuck "Next: no such candidate" : Sem Value).run P w := by
    have ht := next_test_false seen es since c0 hold hsc
    unfold Instr.next
    simp only [Sem.run_bind, run_getIter hbi, Result.andThen_ok, run_getObj hbm, ht, Bool.false_eq_true, if_false]
    have h1 := e1 _ hmem
    have h2 := e2 _ hmem
    unfold leftOf at h1 h2 ⊢
    simp only [h1, h2, Array.append_empty]
    rfl
  by_cases h0 : (leftOf es seen) = #[]
  · refine ⟨_, _, ?_, hend h0 w H⟩
    rw [hrun, h0]
    simp [choose, Sem.run, Question.forced]
  · have hne : (leftOf es seen).isEmpty = false := by simpa [Array.isEmpty_iff] using h0
    have hs0 : 0 < (leftOf es seen).size := Array.size_pos_iff.2 h0
    have hch : ∃ (j : Nat) (w1 : World), j < (leftOf es seen).size ∧ (w1 = w ∨ w1 = w.drew) ∧ (choose (Question.mapNext (leftOf es seen).size)).run P w = .ok j w1 := by
      by_cases hf : (leftOf es seen).size ≤ 1
      · exact ⟨0, w, by omega, .inl rfl, by simp [choose, Sem.run, Question.forced, hf]⟩
      · exact ⟨_, w.drew, Nat.mod_lt _ (by omega), .inr rfl, by
          simp only [choose, Sem.run, Question.forced, decide_eq_true_eq, hf, if_false, Question.cut]
          rfl⟩
    obtain ⟨j, w1, hj, hw1, hrunc⟩ := hch
    have H3 : Sat c (obj b (.mapIter (some r) since seen c0) :: obj r (.map es ck) :: Ω) w1 := by
      rcases hw1 with rfl | rfl
      · exact H2
      · exact H2.drew
    obtain ⟨hs, H4⟩ := Sat.setObj (P := P) (o' := .mapIter (some r) since (seen.push (leftOf es seen)[j].born) ck) H3 .head (by intros; simp)
    refine ⟨_, _, ?_, hgo (leftOf es seen)[j] (by simp) _ H4⟩
    rw [hrun]
    simp only [hne, Bool.false_eq_true, if_false, Array.empty_append, Array.size_map, Sem.run_bind, hrunc, Result.andThen_ok, Array.getElem?_map, Array.getElem?_eq_getElem hj, Option.map_some, hs, Sem.run_pure]

/-- The key and the value of the entry at hand. -/
theorem bn_entry {b r since ck : Nat} {seen : Array Nat} {es : Array MapEntry} {e : MapEntry} (H : Sat c Γ w) (hi : Has Γ (obj b (.mapIter (some r) since (seen.push e.born) ck)) Δ) (hm : Has Δ (obj r (.map es ck)) Ω)
    (he : e ∈ es.toList) (hn : (es.toList.map (·.born)).Nodup) (h : K (.tuple #[e.key, e.val]) w) : Bn P (Instr.entry (.pointer (some ⟨b, 0, none⟩))) w K := by
  have H1 := H.get hi
  have H2 : Sat c (obj b (.mapIter (some r) since (seen.push e.born) ck) :: obj r (.map es ck) :: Ω) w := H1.perm ((hm.perm).cons _)
  have hbi := H.objAt hi
  have hbm := H2.objAt (.tail .head)
  refine ⟨_, _, ?_, h⟩
  have hf : es.find? (·.born == e.born) = some e := by rw [← Array.find?_toList]; exact find_born e es.toList hn he
  simp [Instr.entry, run_getIter hbi, run_getObj hbm, hf]

end

end Go.Proofs.YtlolaieolgmdnaaDoor
