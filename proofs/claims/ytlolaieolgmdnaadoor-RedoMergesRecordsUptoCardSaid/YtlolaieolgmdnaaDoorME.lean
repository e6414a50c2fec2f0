/-
  The memory under test, changed: one line opened and shut; the busy lines' map.
-/
import Derived.Test.YtlolaieolgmdnaaDoorMD

import Derived.Test.YtlolaieolgmdnaaDoorLm

namespace Go.Proofs.YtlolaieolgmdnaaDoor

open Go.RowKit
set_option linter.unusedVariables false
set_option linter.unusedSimpArgs false
set_option maxRecDepth 10000

/-! ### The busy lines' map -/

theorem BusyOk.stamped {es : Array MapEntry} {ck : Nat} {L : List LineS} (h : BusyOk es ck L) : Go.MapKept.Stamped es ck := ⟨h.old, h.born, h.one⟩

theorem BusyOk.ints {es : Array MapEntry} {ck : Nat} {L : List LineS} (h : BusyOk es ck L) : IntKeys es.toList := fun e he => by
  obtain ⟨n, h1, -⟩ := h.keys e he
  exact ⟨n, h1⟩

theorem set_get {L : List LineS} {n m : Nat} {y' l : LineS} (h : (L.set n y')[m]? = some l) : (m = n ∧ l = y') ∨ (m ≠ n ∧ L[m]? = some l) := by
  by_cases hm : m = n
  · subst hm
    rw [List.getElem?_set_self'] at h
    cases hl : L[m]? with
    | none => rw [hl] at h; cases h
    | some x => rw [hl] at h; simp at h; exact .inl ⟨rfl, h.symm⟩
  · rw [List.getElem?_set_ne (fun e => hm e.symm)] at h; exact .inr ⟨hm, h⟩

theorem set_at {L : List LineS} {n : Nat} {y y' : LineS} (hy : L[n]? = some y) : (L.set n y')[n]? = some y' := by
  rw [List.getElem?_set_self']; rw [hy]; rfl

theorem BusyOk.push {es : Array MapEntry} {ck n : Nat} {L : List LineS} {y y' : LineS} (h : BusyOk es ck L) (hy : L[n]? = some y) (hp : y'.p ≠ []) (hn : ∀ x ∈ es.toList, x.key ≠ .int .i64 (n : Int)) :
    BusyOk (es.push { key := .int .i64 (n : Int), val := .bool true, born := ck }) (ck + 1) (L.set n y') := by
  have hs := Go.MapKept.stamped_push h.stamped hn (val := .bool true)
  refine ⟨?_, ?_, hs.2.2, hs.2.1, hs.1⟩
  · intro e he
    rw [Array.toList_push, List.mem_append, List.mem_singleton] at he
    rcases he with he | rfl
    · obtain ⟨m, h1, h2, l, h3, h4⟩ := h.keys e he
      have hmn : m ≠ n := fun e' => hn e he (by rw [h1, e'])
      exact ⟨m, h1, h2, l, by rw [List.getElem?_set_ne (fun e => hmn e.symm)]; exact h3, h4⟩
    · exact ⟨n, rfl, rfl, y', set_at hy, hp⟩
  · intro m l hl hlp
    rw [Array.toList_push]
    rcases set_get hl with ⟨rfl, rfl⟩ | ⟨hmn, hl⟩
    · exact ⟨_, List.mem_append.2 (.inr (List.mem_singleton.2 rfl)), rfl⟩
    · obtain ⟨e, he, h1⟩ := h.all m l hl hlp
      exact ⟨e, List.mem_append.2 (.inl he), h1⟩

/-- What becomes of the map when a line that is busy is noted anew: at most its own entry goes. -/
def Only (n : Nat) (es es' : Array MapEntry) (ck ck' : Nat) : Prop := (∃ e ∈ es.toList, e.key = .int .i64 (n : Int)) → (∀ e ∈ es'.toList, e ∈ es.toList) ∧ (∀ e ∈ es.toList, e.key ≠ .int .i64 (n : Int) → e ∈ es'.toList) ∧ ck' = ck
theorem Only.same (n : Nat) (es : Array MapEntry) (ck : Nat) : Only n es es ck ck := fun _ => ⟨fun _ h => h, fun _ h _ => h, rfl⟩

theorem BusyOk.turnEq {es : Array MapEntry} {ck n j : Nat} {L : List LineS} {x : MapEntry} (h : BusyOk es ck L) (hx : es[j]? = some x) (hk : x.key = .int .i64 (n : Int)) :
    (es.modify j fun e => { e with key := .int .i64 (n : Int), val := .bool true }) = es := by
  have hxm : x ∈ es.toList := List.mem_iff_getElem?.2 ⟨j, by rw [Array.getElem?_toList]; exact hx⟩
  have hxe : ({ x with key := .int .i64 (n : Int), val := .bool true } : MapEntry) = x := by
    obtain ⟨m, h1, h2, -⟩ := h.keys x hxm
    rw [hk] at h1
    cases x with
    | mk key val born => simp at h2 hk; subst h2; subst hk; rfl
  apply Array.ext_getElem?
  intro i
  rw [Array.getElem?_modify]
  split
  · rename_i hij; subst hij; rw [hx]; simp [hxe]
  · rfl

theorem BusyOk.turn {es : Array MapEntry} {ck n j : Nat} {L : List LineS} {y y' : LineS} {x : MapEntry} (h : BusyOk es ck L) (hy : L[n]? = some y) (hp : y'.p ≠ []) (hx : es[j]? = some x) (hk : x.key = .int .i64 (n : Int)) :
    BusyOk (es.modify j fun e => { e with key := .int .i64 (n : Int), val := .bool true }) ck (L.set n y') := by
  have hxm : x ∈ es.toList := List.mem_iff_getElem?.2 ⟨j, by rw [Array.getElem?_toList]; exact hx⟩
  have hxe : ({ x with key := .int .i64 (n : Int), val := .bool true } : MapEntry) = x := by
    obtain ⟨m, h1, h2, -⟩ := h.keys x hxm
    rw [hk] at h1
    cases x with
    | mk key val born => simp at h2 hk; subst h2; subst hk; rfl
  have hes : (es.modify j fun e => { e with key := .int .i64 (n : Int), val := .bool true }) = es := by
    apply Array.ext_getElem?
    intro i
    rw [Array.getElem?_modify]
    split
    · rename_i hij; subst hij; rw [hx]; simp [hxe]
    · rfl
  rw [hes]
  refine ⟨?_, ?_, h.one, h.born, h.old⟩
  · intro e he
    obtain ⟨m, h1, h2, l, h3, h4⟩ := h.keys e he
    by_cases hmn : m = n
    · subst hmn; exact ⟨m, h1, h2, y', set_at hy, hp⟩
    · exact ⟨m, h1, h2, l, by rw [List.getElem?_set_ne (fun e => hmn e.symm)]; exact h3, h4⟩
  · intro m l hl hlp
    rcases set_get hl with ⟨rfl, rfl⟩ | ⟨hmn, hl⟩
    · exact ⟨x, hxm, hk⟩
    · exact h.all m l hl hlp

theorem BusyOk.idle {es : Array MapEntry} {ck n : Nat} {L : List LineS} {y y' : LineS} (h : BusyOk es ck L) (hy : L[n]? = some y) (hp : y'.p = []) (hn : ∀ x ∈ es.toList, x.key ≠ .int .i64 (n : Int)) : BusyOk es ck (L.set n y') := by
  refine ⟨?_, ?_, h.one, h.born, h.old⟩
  · intro e he
    obtain ⟨m, h1, h2, l, h3, h4⟩ := h.keys e he
    have hmn : m ≠ n := fun e' => hn e he (by rw [h1, e'])
    exact ⟨m, h1, h2, l, by rw [List.getElem?_set_ne (fun e => hmn e.symm)]; exact h3, h4⟩
  · intro m l hl hlp
    rcases set_get hl with ⟨rfl, rfl⟩ | ⟨hmn, hl⟩
    · exact absurd hp hlp
    · exact h.all m l hl hlp

theorem erase_mem {es : Array MapEntry} {j : Nat} {x e : MapEntry} (hx : es[j]? = some x) (hn : (es.toList.map (·.key)).Nodup) : e ∈ (es.eraseIdxIfInBounds j).toList ↔ e ∈ es.toList ∧ e.key ≠ x.key := by
  obtain ⟨hj, hje⟩ := Array.getElem?_eq_some_iff.1 hx
  have hl : (es.eraseIdxIfInBounds j).toList = es.toList.eraseIdx j := by
    unfold Array.eraseIdxIfInBounds
    rw [dif_pos hj, Array.toList_eraseIdx]
  have hxl : es.toList[j]? = some x := by rw [Array.getElem?_toList]; exact hx
  have hkeys : ∀ i e, es.toList[i]? = some e → e.key = x.key → i = j := fun i e he hk => by
    have a1 : (es.toList.map (·.key))[i]? = some x.key := by rw [List.getElem?_map, he]; exact congrArg some hk
    have a2 : (es.toList.map (·.key))[j]? = some x.key := by rw [List.getElem?_map, hxl]; rfl
    exact (List.getElem?_inj (List.getElem?_eq_some_iff.1 a1).1 hn).1 (a1.trans a2.symm)
  rw [hl]
  constructor
  · intro he
    refine ⟨List.mem_of_mem_eraseIdx he, fun hk => ?_⟩
    obtain ⟨i, hi⟩ := List.mem_iff_getElem?.1 he
    rw [List.getElem?_eraseIdx] at hi
    split at hi
    · rename_i h; have := hkeys i e hi hk; omega
    · rename_i h; have := hkeys (i + 1) e hi hk; omega
  · rintro ⟨he, hk⟩
    obtain ⟨i, hi⟩ := List.mem_iff_getElem?.1 he
    have hij : i ≠ j := fun e' => by subst e'; rw [hxl] at hi; cases hi; exact hk rfl
    refine List.mem_iff_getElem?.2 ?_
    by_cases hlt : i < j
    · exact ⟨i, by rw [List.getElem?_eraseIdx, if_pos hlt]; exact hi⟩
    · exact ⟨i - 1, by rw [List.getElem?_eraseIdx, if_neg (by omega), show i - 1 + 1 = i by omega]; exact hi⟩

theorem BusyOk.drop {es : Array MapEntry} {ck n j : Nat} {L : List LineS} {y y' : LineS} {x : MapEntry} (h : BusyOk es ck L) (hy : L[n]? = some y) (hp : y'.p = []) (hx : es[j]? = some x) (hk : x.key = .int .i64 (n : Int)) :
    BusyOk (es.eraseIdxIfInBounds j) ck (L.set n y') := by
  have hs := Go.MapKept.stamped_erase h.stamped j
  refine ⟨?_, ?_, hs.2.2, hs.2.1, hs.1⟩
  · intro e he
    obtain ⟨he1, he2⟩ := (erase_mem hx h.one).1 he
    obtain ⟨m, h1, h2, l, h3, h4⟩ := h.keys e he1
    have hmn : m ≠ n := fun e' => he2 (by rw [h1, hk, e'])
    exact ⟨m, h1, h2, l, by rw [List.getElem?_set_ne (fun e => hmn e.symm)]; exact h3, h4⟩
  · intro m l hl hlp
    rcases set_get hl with ⟨rfl, rfl⟩ | ⟨hmn, hl⟩
    · exact absurd hp hlp
    · obtain ⟨e, he, h1⟩ := h.all m l hl hlp
      refine ⟨e, (erase_mem hx h.one).2 ⟨he, fun e' => hmn ?_⟩, h1⟩
      rw [h1, hk] at e'; injection e' with _ e'; omega

/-! ### One line, opened -/

theorem pends_perm {Z : List (LineS × Value)} {n : Nat} {z : LineS × Value} (h : Z[n]? = some z) : (Z.map pendH).Perm (pendH z :: (Z.eraseIdx n).map pendH) := by
  have h1 : Z.Perm (z :: Z.eraseIdx n) := by
    obtain ⟨hn, rfl⟩ := List.getElem?_eq_some_iff.1 h
    have e : Z = Z.take n ++ Z[n] :: Z.drop (n + 1) := by
      rw [← List.drop_eq_getElem_cons hn, List.take_append_drop]
    have e2 : Z.eraseIdx n = Z.take n ++ Z.drop (n + 1) := List.eraseIdx_eq_take_drop_succ _ _
    rw [e2]
    conv => lhs; rw [e]
    exact List.perm_middle
  exact h1.map pendH

theorem erase_set (Z : List (LineS × Value)) (n : Nat) (z : LineS × Value) : (Z.set n z).eraseIdx n = Z.eraseIdx n := by
  apply List.ext_getElem?
  intro i
  rw [List.getElem?_eraseIdx, List.getElem?_eraseIdx]
  split
  · rw [List.getElem?_set_ne (by omega)]
  · rw [List.getElem?_set_ne (by omega)]

theorem PsOk.set {L : List LineS} {ps : List Value} {n : Nat} {y y' : LineS} {p p' : Value} (h : PsOk L ps) (hy : L[n]? = some y) (hp : ps[n]? = some p) (hn : y'.p = [] → ∃ a, p' = .slice a 0 0) : PsOk (L.set n y') (ps.set n p') := by
  refine ⟨by simp [h.len], fun i z q hz hq hz0 => ?_⟩
  rcases set_get hz with ⟨rfl, rfl⟩ | ⟨hi, hz⟩
  · rw [List.getElem?_set_self', hp] at hq
    cases hq
    exact hn hz0
  · rw [List.getElem?_set_ne (fun e => hi e.symm)] at hq
    exact h.nil i z q hz hq hz0

section

variable {c : Cx} {Γ Δ : List HProp} {w : World} {m : Nat} {M : MemS}

theorem Sat.bigOpen {Δ : List HProp} (H : Sat c (big Δ :: Γ) w) : Sat c (Δ ++ Γ) w := H.open (fun _ h => h)
theorem Sat.bigShut {Δ : List HProp} (H : Sat c (Δ ++ Γ) w) : Sat c (big Δ :: Γ) w := Sat.shut H (fun _ h => h)

theorem Sat.pendOut {Z : List (LineS × Value)} {n : Nat} {z : LineS × Value} (h : Z[n]? = some z) (H : Sat c (big (Z.map pendH) :: Γ) w) : Sat c (pendH z :: big ((Z.eraseIdx n).map pendH) :: Γ) w := by
  have H1 := H.bigOpen.perm ((pends_perm h).append_right Γ)
  rw [List.cons_append] at H1
  have H2 : Sat c ((Z.eraseIdx n).map pendH ++ (pendH z :: Γ)) w := H1.perm (List.perm_middle.symm)
  exact (H2.bigShut).get (.tail .head)

theorem Sat.pendIn {Z : List (LineS × Value)} {n : Nat} {z z' : LineS × Value} (h : Z[n]? = some z) (H : Sat c (pendH z' :: big ((Z.eraseIdx n).map pendH) :: Γ) w) : Sat c (big ((Z.set n z').map pendH) :: Γ) w := by
  have H1 : Sat c (big ((Z.eraseIdx n).map pendH) :: pendH z' :: Γ) w := H.get (.tail .head)
  have H2 := H1.bigOpen
  have h' : (Z.set n z')[n]? = some z' := by rw [List.getElem?_set_self']; rw [h]; rfl
  refine Sat.bigShut (H2.perm ?_)
  refine List.Perm.trans ?_ ((pends_perm h').append_right Γ).symm
  rw [erase_set, List.cons_append]
  exact List.perm_middle

/-- The memory, its busy lines' map named. -/
def MemE (m : Nat) (M : MemS) (mb : Nat) (es : Array MapEntry) (ck : Nat) : HProp := fun h => ∃ lv ps ev, PsOk M.L ps ∧ BusyOk es ck M.L ∧
  stars [blk m [lv, .map (some mb), .int .i64 M.span, ev] 61, ownS 57 11 lv M.L.length (((M.L.zip ps).map lnC).flatten), obj mb (.map es ck),
    ownS 77 12 ev M.ev.length ((M.ev.map evC).flatten), big ((M.L.zip ps).map pendH)] h

theorem Sat.nameM (H : Sat c (MemH m M :: Γ) w) : ∃ mb es ck, Sat c (MemE m M mb es ck :: Γ) w := by
  obtain ⟨f, g, s, ⟨lv, ps, mb, es, ck, ev, h1, h2, h3⟩, hr⟩ := H.own
  exact ⟨mb, es, ck, { H with own := ⟨f, g, s, ⟨lv, ps, ev, h1, h2, h3⟩, hr⟩ }⟩

theorem Sat.hideM {mb ck : Nat} {es : Array MapEntry} (H : Sat c (MemE m M mb es ck :: Γ) w) : Sat c (MemH m M :: Γ) w := by
  obtain ⟨f, g, s, ⟨lv, ps, ev, h1, h2, h3⟩, hr⟩ := H.own
  exact { H with own := ⟨f, g, s, ⟨lv, ps, mb, es, ck, ev, h1, h2, h3⟩, hr⟩ }

theorem Sat.busy {mb ck : Nat} {es : Array MapEntry} (H : Sat c (MemE m M mb es ck :: Γ) w) : BusyOk es ck M.L := H.pure fun h hm => hm.choose_spec.choose_spec.choose_spec.2.1

theorem Sat.openME {mb ck : Nat} {es : Array MapEntry} (H : Sat c (MemE m M mb es ck :: Γ) w) : ∃ lv ps ev, PsOk M.L ps ∧ BusyOk es ck M.L ∧
    Sat c (blk m [lv, .map (some mb), .int .i64 M.span, ev] 61 :: ownS 57 11 lv M.L.length (((M.L.zip ps).map lnC).flatten) :: obj mb (.map es ck) ::
      ownS 77 12 ev M.ev.length ((M.ev.map evC).flatten) :: big ((M.L.zip ps).map pendH) :: Γ) w := by
  obtain ⟨f, g, s, ⟨lv, ps, ev, h1, h2, h3⟩, hr⟩ := H.own
  exact ⟨lv, ps, ev, h1, h2, { H with own := stars_join (Γ := [_, _, _, _, _]) s h3 hr }⟩

theorem Sat.shutME {mb ck : Nat} {lv ev : Value} {ps : List Value} {es : Array MapEntry} (h1 : PsOk M.L ps) (h2 : BusyOk es ck M.L)
    (H : Sat c (blk m [lv, .map (some mb), .int .i64 M.span, ev] 61 :: ownS 57 11 lv M.L.length (((M.L.zip ps).map lnC).flatten) :: obj mb (.map es ck) ::
      ownS 77 12 ev M.ev.length ((M.ev.map evC).flatten) :: big ((M.L.zip ps).map pendH) :: Γ) w) : Sat c (MemE m M mb es ck :: Γ) w :=
  Sat.shut (Δ := [_, _, _, _, _]) H fun h hs => ⟨lv, ps, ev, h1, h2, hs⟩

/-- A line of the memory, opened. -/
theorem Sat.openLine {n mb ck : Nat} {es : Array MapEntry} {y : LineS} (H : Sat c (MemE m M mb es ck :: Γ) w) (hy : M.L[n]? = some y) : ∃ bl cap sp ps p ev, PsOk M.L ps ∧ BusyOk es ck M.L ∧ ps[n]? = some p ∧ M.L.length ≤ cap ∧
    ((((M.L.zip ps).map lnC).flatten) ++ sp).length = cap * 11 ∧ p.oneCell' = true ∧
    Sat c (blk m [.slice (some ⟨bl, 0, none⟩) M.L.length cap, .map (some mb), .int .i64 M.span, ev] 61 :: blk bl (((M.L.zip ps).map lnC).flatten ++ sp) 57 :: pendH (y, p) :: obj mb (.map es ck) ::
      ownS 77 12 ev M.ev.length ((M.ev.map evC).flatten) :: big (((M.L.zip ps).eraseIdx n).map pendH) :: Γ) w := by
  obtain ⟨lv, ps, ev, h1, h2, H⟩ := H.openME
  have hlt : n < M.L.length := (List.getElem?_eq_some_iff.1 hy).1
  obtain ⟨p, hp⟩ : ∃ p, ps[n]? = some p := ⟨ps[n]'(by have := h1.len; omega), List.getElem?_eq_getElem _⟩
  have hz : (M.L.zip ps)[n]? = some (y, p) := by rw [List.getElem?_zip_eq_some]; exact ⟨hy, hp⟩
  obtain ⟨hl, hs⟩ := (H.get (.tail .head)).openS
  rcases hs with ⟨a, rfl, h0, -, -⟩ | ⟨bl, cap, sp, rfl, h3, h4, H⟩
  · omega
  have H5 := ((H.get Has.n4).pendOut hz)
  have hpo : p.oneCell' = true := by
    obtain ⟨a, cap, e, -⟩ := (show Sat c (ownS 80 2 p y.p.length ((y.p.map stC).flatten) :: _) w from H5).slAt .head
    rw [e]; rfl
  refine ⟨bl, cap, sp, ps, p, ev, h1, h2, hp, h3, h4, hpo, ?_⟩
  exact H5.pull (ps := [_, _, _, _, _, _]) (.cons Has.n3 (.cons Has.n2 (.cons Has.n0 (.cons Has.n1 (.cons Has.n1 (.cons Has.n0 .nil))))))

/-- .. and shut again, changed. -/
theorem Sat.shutLine {n : Nat} {y y' : LineS} {L : List LineS} {bl cap mb ck : Nat} {sp ps : List Value} {p p' ev : Value} {es : Array MapEntry} {span : Int} {E : List Ev} (hy : L[n]? = some y) (hps : PsOk L ps) (hnil : y'.p = [] → ∃ a, p' = .slice a 0 0) (hp : ps[n]? = some p) (hcap : L.length ≤ cap)
    (hsp : (((L.zip ps).map lnC).flatten ++ sp).length = cap * 11) (hb : BusyOk es ck (L.set n y'))
    (H : Sat c (blk m [.slice (some ⟨bl, 0, none⟩) L.length cap, .map (some mb), .int .i64 span, ev] 61 :: blk bl ((((L.zip ps).set n (y', p')).map lnC).flatten ++ sp) 57 :: pendH (y', p') :: obj mb (.map es ck) ::
      ownS 77 12 ev E.length ((E.map evC).flatten) :: big (((L.zip ps).eraseIdx n).map pendH) :: Γ) w) : Sat c (MemE m ⟨L.set n y', span, E⟩ mb es ck :: Γ) w := by
  have hz : (L.zip ps)[n]? = some (y, p) := by rw [List.getElem?_zip_eq_some]; exact ⟨hy, hp⟩
  have hzs : (L.zip ps).set n (y', p') = (L.set n y').zip (ps.set n p') := by
    apply List.ext_getElem?
    intro i
    by_cases hi : i = n
    · subst hi
      rw [List.getElem?_set_self', hz]
      symm
      show ((L.set i y').zip (ps.set i p'))[i]? = some (y', p')
      rw [List.getElem?_zip_eq_some]
      exact ⟨set_at hy, by rw [List.getElem?_set_self', hp]; rfl⟩
    · rw [List.getElem?_set_ne (fun e => hi e.symm)]
      rw [List.zip_eq_zipWith, List.zip_eq_zipWith, List.getElem?_zipWith, List.getElem?_zipWith, List.getElem?_set_ne (fun e => hi e.symm), List.getElem?_set_ne (fun e => hi e.symm)]
  have hrl : ∀ Z : List (LineS × Value), ((Z.map lnC).flatten).length = Z.length * 11 := fun Z => rows_length lnC 11 lnC_len Z
  rw [hzs] at H
  have H1 := ((H.get Has.n1).shutS (n := L.length) (by rw [hrl, List.length_zip, List.length_set, List.length_set, hps.len, Nat.min_self]) hcap (by
    rw [List.length_append, hrl] at hsp ⊢
    rw [List.length_zip, List.length_set, List.length_set]; rw [List.length_zip] at hsp; exact hsp))
  have H2 := (H1.pull (ps := [pendH (y', p'), big (((L.zip ps).eraseIdx n).map pendH)]) (.cons Has.n2 (.cons Has.n4 .nil)))
  have H3 := Sat.pendIn hz H2
  rw [hzs] at H3
  refine Sat.shutME (lv := .slice (some ⟨bl, 0, none⟩) L.length cap) (ev := ev) (mb := mb) (ps := ps.set n p') (es := es) (ck := ck) (hps.set hy hp hnil) hb ?_
  have h9 := H3.pull (ps := [_, _, _, _, _]) (.cons Has.n2 (.cons Has.n1 (.cons Has.n1 (.cons Has.n1 (.cons Has.n0 .nil)))))
  simpa using h9

end

end Go.Proofs.YtlolaieolgmdnaaDoor
