/-
  The memory under test, as a thing owned: its lines, what is pending on them, its busy lines, its events.
-/
import Derived.Test.YtlolaieolgmdnaaDoorTy

import Derived.Test.YtlolaieolgmdnaaDoorGb

import Derived.Test.YtlolaieolgmdnaaDoorHeap

namespace Go.Proofs.YtlolaieolgmdnaaDoor

open Go.RowKit
set_option linter.unusedVariables false

/-! ### Calls that leave what is owned -/

theorem Sat.below {c : Cx} {Γ : List HProp} {w w' : World} (H : Sat c Γ w) (h : Below w.heap.size w w') : Sat c Γ w' := by
  have hb : ∀ k o, w.heap[k]? = some o → w'.heap[k]? = some o := fun k o hk => by
    rcases Nat.lt_or_ge k w.heap.size with hlt | hge
    · rw [h.block k hlt]; exact hk
    · rw [Array.getElem?_eq_none hge] at hk; cases hk
  refine ⟨h.os.trans H.os, h.tape.trans H.tape, h.output.trans H.output, fun k o hk => hb k o (H.ro k o hk), stars_mono H.own fun k o hk => ?_⟩
  unfold restH at hk ⊢
  split at hk
  · cases hk
  · rename_i hn
    rw [if_neg hn]; exact hb k o hk

theorem of_RetB {P : Program} {f : FuncId} {args : Array Value} {c : Cx} {Γ : List HProp} {w : World} {v : Value} (H : Sat c Γ w) (h : Calls P f args w (RetB v w)) :
    Calls P f args w (Rt fun x w' => x = v ∧ Sat c Γ w') := by
  refine h.mono ?_
  rintro e w' ⟨rfl, hb⟩
  exact ⟨v, rfl, rfl, H.below hb⟩

theorem of_RetS {P : Program} {f : FuncId} {args : Array Value} {c : Cx} {Γ : List HProp} {w : World} {v : Value} (H : Sat c Γ w) (h : Calls P f args w (RetS v w)) :
    Calls P f args w (Rt fun x w' => x = v ∧ Sat c Γ w') := by
  refine h.mono ?_
  rintro e w' ⟨rfl, rfl⟩
  exact ⟨v, rfl, rfl, H⟩

/-- The table of the library's that the code's functions read. -/
def TabC (c : Cx) : Prop := ∀ {Γ : List HProp} {w : World}, Sat c Γ w → TabIn w

/-- A call that yields v and leaves what is owned. -/
abbrev Yes (c : Cx) (Γ : List HProp) (u : Value) : Value → World → Prop := fun v w' => v = u ∧ Sat c Γ w'

/-! ### Rows of a list -/

theorem rows_cell {α : Type} (enc : α → List Value) (k : Nat) (hk : ∀ x, (enc x).length = k) (l : List α) (i : Nat) (x : α) (h : l[i]? = some x) (j : Nat) (hj : j < k) : (l.map enc).flatten[i * k + j]? = (enc x)[j]? := by
  rw [Nat.mul_comm]; exact flat_cell enc k hk l i x h j hj

theorem rows_length {α : Type} (enc : α → List Value) (k : Nat) (hk : ∀ x, (enc x).length = k) (l : List α) : ((l.map enc).flatten).length = l.length * k := by
  rw [flat_size enc k hk, Nat.mul_comm]

theorem rows_set {α : Type} (enc : α → List Value) (k : Nat) (hk : ∀ x, (enc x).length = k) : ∀ (l : List α) (i : Nat) (x y : α) (j : Nat) (v : Value), l[i]? = some x → j < k → enc y = (enc x).set j v →
    (l.map enc).flatten.set (i * k + j) v = ((l.set i y).map enc).flatten := by
  intro l
  induction l with
  | nil => intro i x y j v h; simp at h
  | cons z l ih =>
    intro i x y j v h hj he
    cases i with
    | zero =>
      simp at h; subst h
      simp only [Nat.zero_mul, Nat.zero_add, List.map_cons, List.flatten_cons, List.set_cons_zero]
      rw [List.set_append_left _ _ (by rw [hk]; exact hj), he]
    | succ i =>
      simp only [List.map_cons, List.flatten_cons, List.set_cons_succ]
      rw [List.set_append_right _ _ (by rw [hk, Nat.succ_mul]; omega), hk]
      have : (i + 1) * k + j - k = i * k + j := by rw [Nat.succ_mul]; omega
      rw [this, ih i x y j v (by simpa using h) hj he]

theorem all_one_rows {α : Type} (enc : α → List Value) (l : List α) (h : ∀ x, ∀ u ∈ enc x, u.oneCell' = true) : ∀ u ∈ (l.map enc).flatten, u.oneCell' = true := by
  intro u hu
  obtain ⟨r, hr, hur⟩ := List.mem_flatten.1 hu
  obtain ⟨x, _, rfl⟩ := List.mem_map.1 hr
  exact h x u hur

/-! ### The data -/

abbrev St := Int × Int
def stC (s : St) : List Value := [.int .i64 s.1, .int .i64 s.2]
theorem stC_len (s : St) : (stC s).length = 2 := rfl

structure LineS where
  x : W8
  c : Int
  p : List St
  mark : Int

def w8C (l : W8) : List Value := [.int .i64 l.a0, .int .i64 l.a1, .int .i64 l.a2, .int .i64 l.a3, .int .i64 l.a4, .int .i64 l.a5, .int .i64 l.a6, .int .i64 l.a7]
def lnC (y : LineS × Value) : List Value := [.int .i64 y.1.x.a0, .int .i64 y.1.x.a1, .int .i64 y.1.x.a2, .int .i64 y.1.x.a3, .int .i64 y.1.x.a4, .int .i64 y.1.x.a5, .int .i64 y.1.x.a6, .int .i64 y.1.x.a7, .int .i64 y.1.c, y.2, .int .i64 y.1.mark]
theorem lnC_len (y : LineS × Value) : (lnC y).length = 11 := rfl

structure Ev where
  k : Int
  at' : Int
  v : Int
  s : Int
  w : W8
def evC (e : Ev) : List Value := [.int .i64 e.k, .int .i64 e.at', .int .i64 e.v, .int .i64 e.s, .int .i64 e.w.a0, .int .i64 e.w.a1, .int .i64 e.w.a2, .int .i64 e.w.a3, .int .i64 e.w.a4, .int .i64 e.w.a5, .int .i64 e.w.a6, .int .i64 e.w.a7]
theorem evC_len (e : Ev) : (evC e).length = 12 := rfl

structure MemS where
  L : List LineS
  span : Int
  ev : List Ev

/-- The busy lines' map. -/
structure BusyOk (es : Array MapEntry) (ck : Nat) (L : List LineS) : Prop where
  keys : ∀ e ∈ es.toList, ∃ n : Nat, e.key = .int .i64 (n : Int) ∧ e.val = .bool true ∧ ∃ l, L[n]? = some l ∧ l.p ≠ []
  all : ∀ (n : Nat) (l : LineS), L[n]? = some l → l.p ≠ [] → ∃ e ∈ es.toList, e.key = .int .i64 (n : Int)
  one : (es.toList.map (·.key)).Nodup
  born : (es.toList.map (·.born)).Nodup
  old : ∀ e ∈ es.toList, e.born < ck

def pendH (y : LineS × Value) : HProp := ownS 80 2 y.2 y.1.p.length ((y.1.p.map stC).flatten)

/-- The pending slices: as many as lines; where nothing is pending, without a row. -/
structure PsOk (L : List LineS) (ps : List Value) : Prop where
  len : ps.length = L.length
  nil : ∀ (i : Nat) (y : LineS) (p : Value), L[i]? = some y → ps[i]? = some p → y.p = [] → ∃ a, p = .slice a 0 0

theorem psOk_rep (L : List LineS) : PsOk L (List.replicate L.length (.slice none 0 0)) := ⟨by simp, fun i y p _ hp _ => by
  rw [List.getElem?_replicate] at hp
  split at hp
  · cases hp; exact ⟨none, rfl⟩
  · cases hp⟩

def MemH (m : Nat) (M : MemS) : HProp := fun h => ∃ lv ps mb es ck ev, PsOk M.L ps ∧ BusyOk es ck M.L ∧
  stars [blk m [lv, .map (some mb), .int .i64 M.span, ev] 61, ownS 57 11 lv M.L.length (((M.L.zip ps).map lnC).flatten), obj mb (.map es ck),
    ownS 77 12 ev M.ev.length ((M.ev.map evC).flatten), big ((M.L.zip ps).map pendH)] h

section

variable {c : Cx} {Γ : List HProp} {w : World}

theorem Sat.openM {m : Nat} {M : MemS} (H : Sat c (MemH m M :: Γ) w) : ∃ lv ps mb es ck ev, PsOk M.L ps ∧ BusyOk es ck M.L ∧
    Sat c (blk m [lv, .map (some mb), .int .i64 M.span, ev] 61 :: ownS 57 11 lv M.L.length (((M.L.zip ps).map lnC).flatten) :: obj mb (.map es ck) ::
      ownS 77 12 ev M.ev.length ((M.ev.map evC).flatten) :: big ((M.L.zip ps).map pendH) :: Γ) w := by
  obtain ⟨f, g, s, ⟨lv, ps, mb, es, ck, ev, h1, h2, h3⟩, hr⟩ := H.own
  exact ⟨lv, ps, mb, es, ck, ev, h1, h2, { H with own := stars_join (Γ := [_, _, _, _, _]) s h3 hr }⟩

theorem Sat.shutM {m mb ck : Nat} {M : MemS} {lv ev : Value} {ps : List Value} {es : Array MapEntry} (h1 : PsOk M.L ps) (h2 : BusyOk es ck M.L)
    (H : Sat c (blk m [lv, .map (some mb), .int .i64 M.span, ev] 61 :: ownS 57 11 lv M.L.length (((M.L.zip ps).map lnC).flatten) :: obj mb (.map es ck) ::
      ownS 77 12 ev M.ev.length ((M.ev.map evC).flatten) :: big ((M.L.zip ps).map pendH) :: Γ) w) : Sat c (MemH m M :: Γ) w :=
  Sat.shut (Δ := [_, _, _, _, _]) H fun h hs => ⟨lv, ps, mb, es, ck, ev, h1, h2, hs⟩

/-- A memory that is lent: what of it can be read. -/
structure MemR (c : Cx) (m : Nat) (M : MemS) (lv : Value) (ps : List Value) (mb : Nat) (es : Array MapEntry) (ck : Nat) (ev : Value) : Prop where
  ok : PsOk M.L ps
  busy : BusyOk es ck M.L
  top : At c (blk m [lv, .map (some mb), .int .i64 M.span, ev] 61)
  lines : At c (ownS 57 11 lv M.L.length (((M.L.zip ps).map lnC).flatten))
  map : At c (obj mb (.map es ck))
  evs : At c (ownS 77 12 ev M.ev.length ((M.ev.map evC).flatten))
  pend : ∀ y ∈ M.L.zip ps, At c (pendH y)

theorem MemR.len {c : Cx} {m : Nat} {M : MemS} {lv : Value} {ps : List Value} {mb : Nat} {es : Array MapEntry} {ck : Nat} {ev : Value} (R : MemR c m M lv ps mb es ck ev) : ps.length = M.L.length := R.ok.len

theorem At.mem {m : Nat} {M : MemS} (h : At c (MemH m M)) : ∃ lv ps mb es ck ev, MemR c m M lv ps mb es ck ev := by
  obtain ⟨f, ⟨lv, ps, mb, es, ck, ev, h1, h2, h3⟩, hs⟩ := h
  have hA : At c (big [blk m [lv, .map (some mb), .int .i64 M.span, ev] 61, ownS 57 11 lv M.L.length (((M.L.zip ps).map lnC).flatten), obj mb (.map es ck),
    ownS 77 12 ev M.ev.length ((M.ev.map evC).flatten), big ((M.L.zip ps).map pendH)]) := ⟨f, h3, hs⟩
  have hq := At.open (Δ := [_, _, _, _, _]) hA fun _ h => h
  refine ⟨lv, ps, mb, es, ck, ev, h1, h2, hq _ (by simp), hq _ (by simp), hq _ (by simp), hq _ (by simp), ?_⟩
  have hp := At.open (Δ := (M.L.zip ps).map pendH) (hq (big ((M.L.zip ps).map pendH)) (by simp)) fun _ h => h
  intro y hy
  exact hp _ (List.mem_map.2 ⟨y, hy, rfl⟩)

end

end Go.Proofs.YtlolaieolgmdnaaDoor
