/-
  Assertions on heaps: a context's read-only part, and a list of things owned apart from each other.
-/
import Derived.Test.YtlolaieolgmdnaaDoorWpC
namespace Go.Proofs.YtlolaieolgmdnaaDoor
open Go.RowKit
set_option linter.unusedVariables false

abbrev Hp := Nat → Option Obj
abbrev HProp := Hp → Prop

/-- What does not change: the read-only part of the heap, the streams. -/
structure Cx where
  ro : Hp
  os : Os
  tape : Nat → Question → Nat
  output : Array (Nat × ByteArray)

def Spl (h f g : Hp) : Prop := ∀ k, (f k = h k ∧ g k = none) ∨ (g k = h k ∧ f k = none)

def stars : List HProp → Hp → Prop
  | [], _ => True
  | p :: Γ, h => ∃ f g, Spl h f g ∧ p f ∧ stars Γ g

def restH (c : Cx) (w : World) : Hp := fun k => if (c.ro k).isSome then none else w.heap[k]?

structure Sat (c : Cx) (Γ : List HProp) (w : World) : Prop where
  os : w.os = c.os
  tape : w.tape = c.tape
  output : w.output = c.output
  ro : ∀ k o, c.ro k = some o → w.heap[k]? = some o
  own : stars Γ (restH c w)

theorem Spl.symm {h f g : Hp} (s : Spl h f g) : Spl h g f := fun k => (s k).symm

theorem Spl.assoc {h f g f' g' : Hp} (s : Spl h f g) (t : Spl g f' g') : ∃ r, Spl h f' r ∧ Spl r f g' := by
  refine ⟨fun k => if (f k).isSome then f k else g' k, fun k => ?_, fun k => ?_⟩
  · rcases s k with ⟨a, b⟩ | ⟨a, b⟩ <;> rcases t k with ⟨c, d⟩ | ⟨c, d⟩ <;> simp_all
    all_goals (cases h' : h k <;> simp_all)
  · rcases s k with ⟨a, b⟩ | ⟨a, b⟩ <;> rcases t k with ⟨c, d⟩ | ⟨c, d⟩ <;> simp_all
    all_goals (cases h' : h k <;> simp_all)

theorem stars_swap {p q : HProp} {Γ : List HProp} {h : Hp} (H : stars (p :: q :: Γ) h) : stars (q :: p :: Γ) h := by
  obtain ⟨f, g, s, hp, f', g', t, hq, hr⟩ := H
  obtain ⟨r, s', t'⟩ := s.assoc t
  exact ⟨f', r, s', hq, f, g', t', hp, hr⟩

theorem stars_perm {Γ Δ : List HProp} (p : Γ.Perm Δ) : ∀ {h : Hp}, stars Γ h → stars Δ h := by
  induction p with
  | nil => exact fun x => x
  | cons a _ ih => rintro h ⟨f, g, s, hp, hr⟩; exact ⟨f, g, s, hp, ih hr⟩
  | swap a b l => intro h H; exact stars_swap H
  | trans _ _ ih1 ih2 => exact fun H => ih2 (ih1 H)

theorem stars_mono {Γ : List HProp} : ∀ {h h' : Hp}, stars Γ h → (∀ k o, h k = some o → h' k = some o) → stars Γ h' := by
  induction Γ with
  | nil => intros; trivial
  | cons p Γ ih =>
    rintro h h' ⟨f, g, s, hp, hr⟩ hm
    refine ⟨f, fun k => if (f k).isSome then none else h' k, fun k => ?_, hp, ih hr fun k o hk => ?_⟩
    · cases hf : f k with
      | none => right; exact ⟨by simp [hf], rfl⟩
      | some o =>
        left
        rcases s k with ⟨a, b⟩ | ⟨a, b⟩
        · exact ⟨(hm k o (by rw [← a, hf])).symm, by simp [hf]⟩
        · rw [hf] at b; cases b
    · rcases s k with ⟨a, b⟩ | ⟨a, b⟩
      · rw [b] at hk; cases hk
      · simp [b]; exact hm k o (by rw [← a]; exact hk)

/-- Weakening of the list. -/
theorem stars_tail {p : HProp} {Γ : List HProp} {h : Hp} (H : stars (p :: Γ) h) : stars Γ h := by
  obtain ⟨f, g, s, _, hr⟩ := H
  refine stars_mono hr fun k o hk => ?_
  rcases s k with ⟨a, b⟩ | ⟨a, b⟩
  · rw [b] at hk; cases hk
  · rw [← a]; exact hk

theorem stars_sublist {Γ Δ : List HProp} (p : Δ.Sublist Γ) : ∀ {h : Hp}, stars Γ h → stars Δ h := by
  induction p with
  | slnil => exact fun x => x
  | cons a _ ih => exact fun H => ih (stars_tail H)
  | cons_cons a _ ih => rintro h ⟨f, g, s, hp, hr⟩; exact ⟨f, g, s, hp, ih hr⟩

theorem Sat.perm {c : Cx} {Γ Δ : List HProp} {w : World} (p : Γ.Perm Δ) (H : Sat c Γ w) : Sat c Δ w := { H with own := stars_perm p H.own }
theorem Sat.tail {c : Cx} {p : HProp} {Γ : List HProp} {w : World} (H : Sat c (p :: Γ) w) : Sat c Γ w := { H with own := stars_tail H.own }

/-- p stands in Γ; Δ is what is left. -/
inductive Has : List HProp → HProp → List HProp → Prop
  | head {p : HProp} {Γ : List HProp} : Has (p :: Γ) p Γ
  | tail {p q : HProp} {Γ Δ : List HProp} : Has Γ p Δ → Has (q :: Γ) p (q :: Δ)

theorem Has.n0 {p : HProp} {Γ : List HProp} : Has (p :: Γ) p Γ := .head
theorem Has.n1 {p0 q : HProp} {Γ : List HProp} : Has (p0 :: q :: Γ) q (p0 :: Γ) := .tail Has.n0
theorem Has.n2 {p0 p1 q : HProp} {Γ : List HProp} : Has (p0 :: p1 :: q :: Γ) q (p0 :: p1 :: Γ) := .tail Has.n1
theorem Has.n3 {p0 p1 p2 q : HProp} {Γ : List HProp} : Has (p0 :: p1 :: p2 :: q :: Γ) q (p0 :: p1 :: p2 :: Γ) := .tail Has.n2
theorem Has.n4 {p0 p1 p2 p3 q : HProp} {Γ : List HProp} : Has (p0 :: p1 :: p2 :: p3 :: q :: Γ) q (p0 :: p1 :: p2 :: p3 :: Γ) := .tail Has.n3
theorem Has.n5 {p0 p1 p2 p3 p4 q : HProp} {Γ : List HProp} : Has (p0 :: p1 :: p2 :: p3 :: p4 :: q :: Γ) q (p0 :: p1 :: p2 :: p3 :: p4 :: Γ) := .tail Has.n4
theorem Has.n6 {p0 p1 p2 p3 p4 p5 q : HProp} {Γ : List HProp} : Has (p0 :: p1 :: p2 :: p3 :: p4 :: p5 :: q :: Γ) q (p0 :: p1 :: p2 :: p3 :: p4 :: p5 :: Γ) := .tail Has.n5
theorem Has.n7 {p0 p1 p2 p3 p4 p5 p6 q : HProp} {Γ : List HProp} : Has (p0 :: p1 :: p2 :: p3 :: p4 :: p5 :: p6 :: q :: Γ) q (p0 :: p1 :: p2 :: p3 :: p4 :: p5 :: p6 :: Γ) := .tail Has.n6
theorem Has.n8 {p0 p1 p2 p3 p4 p5 p6 p7 q : HProp} {Γ : List HProp} : Has (p0 :: p1 :: p2 :: p3 :: p4 :: p5 :: p6 :: p7 :: q :: Γ) q (p0 :: p1 :: p2 :: p3 :: p4 :: p5 :: p6 :: p7 :: Γ) := .tail Has.n7
theorem Has.n9 {p0 p1 p2 p3 p4 p5 p6 p7 p8 q : HProp} {Γ : List HProp} : Has (p0 :: p1 :: p2 :: p3 :: p4 :: p5 :: p6 :: p7 :: p8 :: q :: Γ) q (p0 :: p1 :: p2 :: p3 :: p4 :: p5 :: p6 :: p7 :: p8 :: Γ) := .tail Has.n8
theorem Has.n10 {p0 p1 p2 p3 p4 p5 p6 p7 p8 p9 q : HProp} {Γ : List HProp} : Has (p0 :: p1 :: p2 :: p3 :: p4 :: p5 :: p6 :: p7 :: p8 :: p9 :: q :: Γ) q (p0 :: p1 :: p2 :: p3 :: p4 :: p5 :: p6 :: p7 :: p8 :: p9 :: Γ) := .tail Has.n9
theorem Has.n11 {p0 p1 p2 p3 p4 p5 p6 p7 p8 p9 p10 q : HProp} {Γ : List HProp} : Has (p0 :: p1 :: p2 :: p3 :: p4 :: p5 :: p6 :: p7 :: p8 :: p9 :: p10 :: q :: Γ) q (p0 :: p1 :: p2 :: p3 :: p4 :: p5 :: p6 :: p7 :: p8 :: p9 :: p10 :: Γ) := .tail Has.n10
theorem Has.n12 {p0 p1 p2 p3 p4 p5 p6 p7 p8 p9 p10 p11 q : HProp} {Γ : List HProp} : Has (p0 :: p1 :: p2 :: p3 :: p4 :: p5 :: p6 :: p7 :: p8 :: p9 :: p10 :: p11 :: q :: Γ) q (p0 :: p1 :: p2 :: p3 :: p4 :: p5 :: p6 :: p7 :: p8 :: p9 :: p10 :: p11 :: Γ) := .tail Has.n11

theorem Has.perm {Γ Δ : List HProp} {p : HProp} (h : Has Γ p Δ) : Γ.Perm (p :: Δ) := by
  induction h with
  | head => exact List.Perm.refl _
  | tail _ ih => exact (ih.cons _).trans (List.Perm.swap _ _ _)

inductive Pulls : List HProp → List HProp → List HProp → Prop
  | nil {Γ : List HProp} : Pulls Γ [] Γ
  | cons {Γ Δ Ω ps : List HProp} {p : HProp} : Has Γ p Δ → Pulls Δ ps Ω → Pulls Γ (p :: ps) Ω

theorem Pulls.perm {Γ ps Ω : List HProp} (h : Pulls Γ ps Ω) : Γ.Perm (ps ++ Ω) := by
  induction h with
  | nil => exact List.Perm.refl _
  | cons h _ ih => exact h.perm.trans (ih.cons _)

theorem Sat.get {c : Cx} {Γ Δ : List HProp} {p : HProp} {w : World} (H : Sat c Γ w) (h : Has Γ p Δ) : Sat c (p :: Δ) w := H.perm h.perm
theorem Sat.pull {c : Cx} {Γ ps Ω : List HProp} {w : World} (H : Sat c Γ w) (h : Pulls Γ ps Ω) : Sat c (ps ++ Ω) w := H.perm h.perm

/-- A block of cells. -/
def blk (b : Nat) (cs : List Value) (t : TypeId) : HProp := fun h => h b = some (.cells cs.toArray t (0, 0))
def obj (b : Nat) (o : Obj) : HProp := fun h => h b = some o
def prp (φ : Prop) : HProp := fun _ => φ
/-- Several atoms as one. -/
def big (Γ : List HProp) : HProp := stars Γ
def exH {α : Type} (p : α → HProp) : HProp := fun h => ∃ x, p x h

theorem stars_append {Γ Δ : List HProp} : ∀ {h : Hp}, stars (Γ ++ Δ) h → ∃ f g, Spl h f g ∧ stars Γ f ∧ stars Δ g := by
  induction Γ with
  | nil => intro h H; exact ⟨fun _ => none, h, fun k => .inr ⟨rfl, rfl⟩, trivial, H⟩
  | cons p Γ ih =>
    rintro h ⟨f, g, s, hp, H⟩
    obtain ⟨f', g', t, h1, h2⟩ := ih H
    obtain ⟨r, s', t'⟩ := s.assoc t
    -- h = f' + r, r = f + g'
    obtain ⟨q, u, v⟩ := t'.assoc (f := f) (g := g') (f' := g') (g' := fun _ => none) (fun k => .inl ⟨rfl, rfl⟩)
    refine ⟨fun k => if (f k).isSome then f k else f' k, g', fun k => ?_, ⟨f, f', fun k => ?_, hp, h1⟩, h2⟩
    · rcases s k with ⟨a, b⟩ | ⟨a, b⟩ <;> rcases t k with ⟨c, d⟩ | ⟨c, d⟩ <;> simp_all
      all_goals (cases h' : h k <;> simp_all)
    · rcases s k with ⟨a, b⟩ | ⟨a, b⟩ <;> rcases t k with ⟨c, d⟩ | ⟨c, d⟩ <;> simp_all
      all_goals (cases h' : h k <;> simp_all)

theorem stars_join {Γ Δ : List HProp} : ∀ {h f g : Hp}, Spl h f g → stars Γ f → stars Δ g → stars (Γ ++ Δ) h := by
  induction Γ with
  | nil =>
    intro h f g s _ h2
    refine stars_mono h2 fun k o hk => ?_
    rcases s k with ⟨a, b⟩ | ⟨a, b⟩
    · rw [b] at hk; cases hk
    · rw [← a]; exact hk
  | cons p Γ ih =>
    rintro h f g s ⟨f1, f2, t, hp, h1⟩ h2
    obtain ⟨r, s1, t1⟩ := s.symm.assoc t
    -- h = f1 + r, r = g + f2
    exact ⟨f1, r, s1, hp, ih t1.symm h1 h2⟩

theorem Spl.none (h : Hp) : Spl h (fun _ => none) h := fun _ => .inr ⟨rfl, rfl⟩

section
variable {c : Cx} {Γ Δ Ω : List HProp} {w : World}

/-- An atom is opened: what it says stands among the others. -/
theorem Sat.open {p : HProp} (H : Sat c (p :: Γ) w) (ho : ∀ h, p h → stars Δ h) : Sat c (Δ ++ Γ) w := by
  obtain ⟨f, g, s, hp, hr⟩ := H.own
  exact { H with own := stars_join s (ho f hp) hr }

/-- .. with something to be named. -/
theorem Sat.openE {α : Type} {p : HProp} {D : α → List HProp} (H : Sat c (p :: Γ) w) (ho : ∀ h, p h → ∃ x, stars (D x) h) : ∃ x, Sat c (D x ++ Γ) w := by
  obtain ⟨f, g, s, hp, hr⟩ := H.own
  obtain ⟨x, hx⟩ := ho f hp
  exact ⟨x, { H with own := stars_join s hx hr }⟩

/-- Atoms are put together again. -/
theorem Sat.shut {p : HProp} (H : Sat c (Δ ++ Γ) w) (hs : ∀ h, stars Δ h → p h) : Sat c (p :: Γ) w := by
  obtain ⟨f, g, s, h1, h2⟩ := stars_append H.own
  exact { H with own := ⟨f, g, s, hs f h1, h2⟩ }

theorem Sat.pure {p : HProp} {φ : Prop} (H : Sat c (p :: Γ) w) (ho : ∀ h, p h → φ) : φ := by
  obtain ⟨f, g, s, hp, hr⟩ := H.own
  exact ho f hp

theorem Sat.ofPrp {φ : Prop} (H : Sat c (prp φ :: Γ) w) : φ := H.pure (φ := φ) (fun _ h => h)

theorem Sat.block {b : Nat} {o : Obj} (H : Sat c (obj b o :: Γ) w) : w.heap[b]? = some o ∧ c.ro b = none := by
  obtain ⟨f, g, s, hp, hr⟩ := H.own
  have hb : f b = some o := hp
  have hx : restH c w b = some o := by
    rcases s b with ⟨x, y⟩ | ⟨x, y⟩
    · rw [← x]; exact hb
    · rw [hb] at y; cases y
  unfold restH at hx
  split at hx
  · cases hx
  · rename_i hn
    refine ⟨hx, ?_⟩
    cases h : c.ro b with
    | none => rfl
    | some _ => rw [h] at hn; simp at hn

theorem Sat.blkAt {b : Nat} {cs : List Value} {t : TypeId} (H : Sat c Γ w) (hf : Has Γ (blk b cs t) Δ) : w.heap[b]? = some (.cells cs.toArray t (0, 0)) := (H.get hf).block (o := .cells cs.toArray t (0, 0)) |>.1

theorem Sat.objAt {b : Nat} {o : Obj} (H : Sat c Γ w) (hf : Has Γ (obj b o) Δ) : w.heap[b]? = some o := (H.get hf).block.1

theorem Sat.cell {b j : Nat} {cs : List Value} {t : TypeId} {v : Value} (H : Sat c Γ w) (hf : Has Γ (blk b cs t) Δ) (hv : cs[j]? = some v) : w.cell? ⟨b, j, none⟩ = some v := by
  have h := H.blkAt hf
  simp [World.cell?, h, hv]

theorem Sat.roAt {k : Nat} {o : Obj} (H : Sat c Γ w) (h : c.ro k = some o) : w.heap[k]? = some o := H.ro k o h

/-- p holds of the read-only part. -/
def At (c : Cx) (p : HProp) : Prop := ∃ f : Hp, p f ∧ ∀ k o, f k = some o → c.ro k = some o

theorem At.ro {b : Nat} {o : Obj} (h : At c (obj b o)) : c.ro b = some o := by
  obtain ⟨f, hf, hs⟩ := h
  exact hs b o hf

theorem At.cell {b j : Nat} {cs : List Value} {t : TypeId} {v : Value} (h : At c (blk b cs t)) (H : Sat c Γ w) (hv : cs[j]? = some v) : w.cell? ⟨b, j, none⟩ = some v := by
  have h := H.roAt (At.ro (o := .cells cs.toArray t (0, 0)) h)
  simp [World.cell?, h, hv]

theorem At.open {p : HProp} {Δ : List HProp} (h : At c p) (ho : ∀ h, p h → stars Δ h) : ∀ q ∈ Δ, At c q := by
  obtain ⟨f, hf, hs⟩ := h
  have H := ho f hf
  clear hf ho
  intro q hq
  have : stars [q] f := stars_sublist (List.singleton_sublist.2 hq) H
  obtain ⟨f1, g1, s, h1, _⟩ := this
  refine ⟨f1, h1, fun k o hk => hs k o ?_⟩
  rcases s k with ⟨x, y⟩ | ⟨x, y⟩
  · rw [← x]; exact hk
  · rw [hk] at y; cases y

theorem At.prop {p : HProp} {φ : Prop} (h : At c p) (ho : ∀ h, p h → φ) : φ := by
  obtain ⟨f, hf, _⟩ := h; exact ho f hf

theorem At.map {p q : HProp} (h : At c p) (ho : ∀ h, p h → q h) : At c q := by
  obtain ⟨f, hf, hs⟩ := h; exact ⟨f, ho f hf, hs⟩

/-- A world that differs in one owned block. -/
theorem Sat.turn {b : Nat} {o o' : Obj} {w' : World} (H : Sat c (obj b o :: Γ) w) (hos : w'.os = w.os) (ht : w'.tape = w.tape) (hout : w'.output = w.output)
    (hb : w'.heap[b]? = some o') (hne : ∀ k, k ≠ b → w'.heap[k]? = w.heap[k]?) : Sat c (obj b o' :: Γ) w' := by
  have hro := (H.block).2
  obtain ⟨f, g, s, hp, hr⟩ := H.own
  have hfb : f b = some o := hp
  refine ⟨hos.trans H.os, ht.trans H.tape, hout.trans H.output, fun k x hk => ?_, ?_⟩
  · have hkb : k ≠ b := fun e => by subst e; rw [hro] at hk; cases hk
    rw [hne k hkb]; exact H.ro k x hk
  · refine ⟨fun k => if k = b then some o' else f k, g, fun k => ?_, by simp [obj], hr⟩
    by_cases hk : k = b
    · subst hk
      left
      refine ⟨?_, ?_⟩
      · unfold restH; simp [hro, hb]
      · rcases s k with ⟨x, y⟩ | ⟨x, y⟩
        · exact y
        · rw [hfb] at y; cases y
    · have : restH c w' k = restH c w k := by unfold restH; rw [hne k hk]
      rw [this]; simp [hk]; exact s k

theorem Sat.drew (H : Sat c Γ w) : Sat c Γ w.drew := ⟨H.os, H.tape, H.output, H.ro, H.own⟩

/-- A new block. -/
theorem Sat.new (H : Sat c Γ w) (o : Obj) : Sat c (obj w.heap.size o :: Γ) { w with heap := w.heap.push o } := by
  have hro : c.ro w.heap.size = none := by
    cases h : c.ro w.heap.size with
    | none => rfl
    | some x => have := H.ro _ _ h; simp at this
  refine ⟨H.os, H.tape, H.output, fun k x hk => ?_, ?_⟩
  · have h := H.ro k x hk
    have hlt : k < w.heap.size := by
      rcases Nat.lt_or_ge k w.heap.size with h' | h'
      · exact h'
      · rw [Array.getElem?_eq_none h'] at h; cases h
    rw [Array.getElem?_push_lt hlt]; simpa [Array.getElem?_eq_getElem hlt] using h
  · refine ⟨fun k => if k = w.heap.size then some o else none, restH c w, fun k => ?_, by simp [obj], H.own⟩
    by_cases hk : k = w.heap.size
    · subst hk; left; unfold restH; simp [hro]
    · right
      unfold restH
      simp [hk, Array.getElem?_push]

end

/-- A cell stored. -/
theorem Sat.store {c : Cx} {Γ Δ : List HProp} {w : World} {b j : Nat} {cs : List Value} {t : TypeId} (H : Sat c Γ w) (hf : Has Γ (blk b cs t) Δ) (v : Value) :
    Sat c (blk b (cs.set j v) t :: Δ) (w.setCell ⟨b, j, none⟩ v) := by
  have h := H.blkAt hf
  have hlt : b < w.heap.size := by
    rcases Nat.lt_or_ge b w.heap.size with h' | h'
    · exact h'
    · rw [Array.getElem?_eq_none h'] at h; cases h
  refine (Sat.turn (o := .cells cs.toArray t (0, 0)) (o' := .cells (cs.set j v).toArray t (0, 0)) (H.get hf) rfl rfl rfl ?_ ?_)
  · show (w.heap.modify b _)[b]? = _
    rw [Array.getElem?_eq_getElem (by simpa using hlt), Array.getElem_modify_self]
    have : w.heap[b] = .cells cs.toArray t (0, 0) := by simpa [Array.getElem?_eq_getElem hlt] using h
    rw [this]; simp
  · intro k hk
    exact Below.heap_setCell w ⟨b, j, none⟩ v k hk

/-- What a context owns may be lent for reading: then it is read-only. -/
theorem Sat.lend {c : Cx} {Γ : List HProp} {p : HProp} {w : World} (H : Sat c (p :: Γ) w) : ∃ f : Hp, p f ∧ (∀ k, f k = none ∨ c.ro k = none) ∧
    Sat { c with ro := fun k => if (f k).isSome then f k else c.ro k } Γ w ∧
    ∀ {Δ : List HProp} {w' : World}, Sat { c with ro := fun k => if (f k).isSome then f k else c.ro k } Δ w' → Sat c (p :: Δ) w' := by
  obtain ⟨f, g, s, hp, hr⟩ := H.own
  have hfr : ∀ k, f k = none ∨ c.ro k = none := fun k => by
    cases hf : f k with
    | none => exact .inl rfl
    | some o =>
      right
      rcases s k with ⟨x, y⟩ | ⟨x, y⟩
      · rw [hf] at x
        unfold restH at x
        cases hc : c.ro k with
        | none => rfl
        | some _ => rw [hc] at x; simp at x
      · rw [hf] at y; cases y
  have hfw : ∀ k o, f k = some o → w.heap[k]? = some o := fun k o hk => by
    rcases s k with ⟨x, y⟩ | ⟨x, y⟩
    · rw [hk] at x
      unfold restH at x
      split at x
      · cases x
      · exact x.symm
    · rw [hk] at y; cases y
  refine ⟨f, hp, hfr, ⟨H.os, H.tape, H.output, fun k o hk => ?_, ?_⟩, ?_⟩
  · simp only at hk
    split at hk
    · exact hfw k o hk
    · exact H.ro k o hk
  · refine stars_mono hr fun k o hk => ?_
    have hf : f k = none := by
      rcases s k with ⟨x, y⟩ | ⟨x, y⟩
      · rw [y] at hk; cases hk
      · exact y
    have hg : restH c w k = some o := by
      rcases s k with ⟨x, y⟩ | ⟨x, y⟩
      · rw [y] at hk; cases hk
      · rw [← x]; exact hk
    unfold restH at hg ⊢
    simp [hf]
    simpa using hg
  · intro Δ w' H'
    have hro' := H'.ro
    refine ⟨H'.os, H'.tape, H'.output, fun k o hk => ?_, ?_⟩
    · refine hro' k o ?_
      rcases hfr k with h | h
      · simp [h, hk]
      · rw [h] at hk; cases hk
    · refine ⟨f, restH { c with ro := fun k => if (f k).isSome then f k else c.ro k } w', fun k => ?_, hp, H'.own⟩
      cases hf : f k with
      | none => right; unfold restH; simp [hf]
      | some o =>
        left
        have h1 := hro' k o (by simp [hf])
        have h2 : c.ro k = none := by
          rcases hfr k with h | h
          · rw [hf] at h; cases h
          · exact h
        unfold restH
        simp [hf, h1, h2]

/-- The same, in words. -/
theorem Sat.lent {c : Cx} {Γ : List HProp} {p : HProp} {w : World} (H : Sat c (p :: Γ) w) : ∃ c' : Cx, At c' p ∧ (∀ q, At c q → At c' q) ∧ Sat c' Γ w ∧
    ∀ {Δ : List HProp} {w' : World}, Sat c' Δ w' → Sat c (p :: Δ) w' := by
  obtain ⟨f, hp, hd, h1, h2⟩ := H.lend
  refine ⟨_, ⟨f, hp, fun k o hk => by simp [hk]⟩, ?_, h1, h2⟩
  rintro q ⟨g, hq, hs⟩
  refine ⟨g, hq, fun k o hk => ?_⟩
  have := hs k o hk
  rcases hd k with h | h
  · simp [h, this]
  · rw [this] at h; cases h

end Go.Proofs.YtlolaieolgmdnaaDoor
