/-
  Merged entries, in plain words: two roads to the same list.
-/
import Derived.WalkKit
namespace Go.Proofs.YtlolaieolgmdnaaDoor

abbrev Ent := Int × Int

/-- The last value at an address. -/
def lastE (l : List Ent) (a : Int) : Option Int := (l.reverse.find? (fun x => x.1 == a)).map (·.2)

theorem lastE_nil (a : Int) : lastE [] a = none := rfl
theorem lastE_snoc (l : List Ent) (x : Ent) (a : Int) : lastE (l ++ [x]) a = if x.1 = a then some x.2 else lastE l a := by
  unfold lastE
  rw [List.reverse_append, List.reverse_singleton, List.singleton_append, List.find?_cons]
  by_cases h : x.1 = a
  · rw [if_pos h, show (x.1 == a) = true from beq_iff_eq.2 h]; rfl
  · rw [if_neg h, show (x.1 == a) = false from beq_eq_false_iff_ne.2 h]

/-- One step of laying x into merged entries: what is out, whether x is laid. -/
def wStep (x : Ent) (s : List Ent × Bool) (y : Ent) : List Ent × Bool :=
  let s1 := if s.2 = false ∧ x.1 ≤ y.1 then (s.1 ++ [x], true) else s
  if y.1 = x.1 then s1 else (s1.1 ++ [y], s1.2)

def wFold (x : Ent) (l : List Ent) : List Ent × Bool := l.foldl (wStep x) ([], false)
def withE (l : List Ent) (x : Ent) : List Ent := if (wFold x l).2 then (wFold x l).1 else (wFold x l).1 ++ [x]
def mergedE (l : List Ent) : List Ent := l.foldl withE []

theorem wFold_nil (x : Ent) : wFold x [] = ([], false) := rfl
theorem wFold_snoc (x : Ent) (l : List Ent) (y : Ent) : wFold x (l ++ [y]) = wStep x (wFold x l) y := by unfold wFold; rw [List.foldl_append]; rfl
theorem mergedE_snoc (l : List Ent) (y : Ent) : mergedE (l ++ [y]) = withE (mergedE l) y := by unfold mergedE; rw [List.foldl_append]; rfl

/-- Strictly ascending addresses. -/
def Asc (l : List Ent) : Prop := l.Pairwise (fun a b => a.1 < b.1)

theorem wStep_a {x y : Ent} (o : List Ent) (he : y.1 = x.1) : wStep x (o, false) y = (o ++ [x], true) := by unfold wStep; simp [he]
theorem wStep_b {x y : Ent} (o : List Ent) (h : x.1 ≤ y.1) (he : y.1 ≠ x.1) : wStep x (o, false) y = (o ++ [x] ++ [y], true) := by unfold wStep; simp [h, he]
theorem wStep_c {x y : Ent} (o : List Ent) (h : ¬ x.1 ≤ y.1) : wStep x (o, false) y = (o ++ [y], false) := by unfold wStep; simp [h, show y.1 ≠ x.1 from by omega]
theorem wStep_d {x y : Ent} (o : List Ent) (he : y.1 ≠ x.1) : wStep x (o, true) y = (o ++ [y], true) := by unfold wStep; simp [he]
theorem wStep_e {x y : Ent} (o : List Ent) (he : y.1 = x.1) : wStep x (o, true) y = (o, true) := by unfold wStep; simp [he]

theorem wStep_len (x y : Ent) (s : List Ent × Bool) (n : Nat) (h : s.1.length ≤ n + s.2.toNat) : (wStep x s y).1.length ≤ n + 1 + (wStep x s y).2.toNat := by
  obtain ⟨o, d⟩ := s
  cases d with
  | false =>
    simp at h
    by_cases hx : x.1 ≤ y.1
    · by_cases he : y.1 = x.1
      · rw [wStep_a o he]; simp; omega
      · rw [wStep_b o hx he]; simp; omega
    · rw [wStep_c o hx]; simp; omega
  | true =>
    simp at h
    by_cases he : y.1 = x.1
    · rw [wStep_e o he]; simp; omega
    · rw [wStep_d o he]; simp; omega

theorem wFold_len (x : Ent) (l : List Ent) : (wFold x l).1.length ≤ l.length + (wFold x l).2.toNat := by
  suffices h : ∀ (l : List Ent) (s : List Ent × Bool) (n : Nat), s.1.length ≤ n + s.2.toNat → (l.foldl (wStep x) s).1.length ≤ n + l.length + (l.foldl (wStep x) s).2.toNat by
    have := h l ([], false) 0 (by simp)
    unfold wFold
    omega
  intro l
  induction l with
  | nil => intro s n h; exact h
  | cons y l ih =>
    intro s n h
    have := ih (wStep x s y) (n + 1) (wStep_len x y s n h)
    simp only [List.foldl_cons, List.length_cons]
    omega

theorem withE_len (l : List Ent) (x : Ent) : (withE l x).length ≤ l.length + 1 := by
  have := wFold_len x l
  unfold withE
  split
  · rename_i h; rw [h] at this; simp at this; omega
  · rename_i h; rw [List.length_append]; simp at h; rw [h] at this; simp at this; simp; omega

theorem mergedE_len (l : List Ent) : (mergedE l).length ≤ l.length := by
  suffices h : ∀ (l s : List Ent), (l.foldl withE s).length ≤ s.length + l.length by simpa [mergedE] using h l []
  intro l
  induction l with
  | nil => intro s; simp
  | cons y l ih => intro s; have := ih (withE s y); have := withE_len s y; simp only [List.foldl_cons, List.length_cons]; omega

/-- What is out, of an ascending list. -/
theorem wFold_asc (x : Ent) (l : List Ent) (h : Asc l) :
    ((wFold x l).2 = false → (wFold x l).1 = l ∧ ∀ y ∈ l, y.1 < x.1) ∧
    ((wFold x l).2 = true → Asc (wFold x l).1 ∧ (∀ z, z ∈ (wFold x l).1 ↔ z = x ∨ (z ∈ l ∧ z.1 ≠ x.1)) ∧ ∃ y ∈ l, x.1 ≤ y.1) := by
  suffices H : ∀ r : List Ent, ∀ l : List Ent, r.reverse = l → Asc l → (((wFold x l).2 = false → (wFold x l).1 = l ∧ ∀ y ∈ l, y.1 < x.1) ∧
    ((wFold x l).2 = true → Asc (wFold x l).1 ∧ (∀ z, z ∈ (wFold x l).1 ↔ z = x ∨ (z ∈ l ∧ z.1 ≠ x.1)) ∧ ∃ y ∈ l, x.1 ≤ y.1)) from H l.reverse l (by simp) h
  intro r
  induction r with
  | nil => intro l hl _; subst hl; simp [wFold_nil]
  | cons y r ih =>
    intro l hl ha
    subst hl
    rw [List.reverse_cons] at ha ⊢
    have ha' := List.pairwise_append.1 ha
    obtain ⟨i1, i2⟩ := ih _ rfl ha'.1
    have hy : ∀ z ∈ r.reverse, z.1 < y.1 := fun z hz => ha'.2.2 z hz y (by simp)
    rw [wFold_snoc]
    generalize wFold x r.reverse = s at i1 i2 ⊢
    generalize r.reverse = l at *
    obtain ⟨o, d⟩ := s
    simp only at i1 i2
    cases d with
    | false =>
      obtain ⟨rfl, hlt⟩ := i1 rfl
      by_cases hxy : x.1 ≤ y.1
      · by_cases he : y.1 = x.1
        · rw [wStep_a o he]
          refine ⟨fun h => by simp at h, fun _ => ⟨?_, ?_, y, by simp, by omega⟩⟩
          · exact List.pairwise_append.2 ⟨ha'.1, by simp, fun a ha b hb => by simp at hb; subst hb; exact hlt a ha⟩
          · intro z
            simp only [List.mem_append, List.mem_singleton]
            constructor
            · rintro (h | h)
              · exact .inr ⟨.inl h, by have := hlt z h; omega⟩
              · exact .inl h
            · rintro (h | ⟨h | h, hn⟩)
              · exact .inr h
              · exact .inl h
              · subst h; exact absurd he hn
        · rw [wStep_b o hxy he]
          refine ⟨fun h => by simp at h, fun _ => ⟨?_, ?_, y, by simp, hxy⟩⟩
          · refine List.pairwise_append.2 ⟨List.pairwise_append.2 ⟨ha'.1, by simp, fun a ha b hb => by simp at hb; subst hb; exact hlt a ha⟩, by simp, fun a hao b hb => ?_⟩
            simp only [List.mem_append, List.mem_singleton] at hb hao
            subst hb
            rcases hao with h | h
            · exact hy a h
            · subst h; omega
          · intro z
            simp only [List.mem_append, List.mem_singleton]
            constructor
            · rintro ((h | h) | h)
              · exact .inr ⟨.inl h, by have := hlt z h; omega⟩
              · exact .inl h
              · subst h; exact .inr ⟨.inr rfl, he⟩
            · rintro (h | ⟨h | h, hn⟩)
              · exact .inl (.inr h)
              · exact .inl (.inl h)
              · exact .inr h
      · rw [wStep_c o hxy]
        refine ⟨fun _ => ⟨rfl, ?_⟩, fun h => by simp at h⟩
        intro z hz
        simp only [List.mem_append, List.mem_singleton] at hz
        rcases hz with h | h
        · exact hlt z h
        · subst h; omega
    | true =>
      obtain ⟨j1, j2, q, hq, hxq⟩ := i2 rfl
      have he : ¬ y.1 = x.1 := by have := hy q hq; omega
      rw [wStep_d o he]
      refine ⟨fun h => by simp at h, fun _ => ⟨?_, ?_, q, by simp [hq], hxq⟩⟩
      · refine List.pairwise_append.2 ⟨j1, by simp, fun a hao b hb => ?_⟩
        simp only [List.mem_singleton] at hb; subst hb
        rcases (j2 a).1 hao with h | ⟨h, _⟩
        · subst h; have := hy q hq; omega
        · exact hy a h
      · intro z
        simp only [List.mem_append, List.mem_singleton, j2]
        constructor
        · rintro ((h | ⟨h, hn⟩) | h)
          · exact .inl h
          · exact .inr ⟨.inl h, hn⟩
          · subst h; exact .inr ⟨.inr rfl, he⟩
        · rintro (h | ⟨h | h, hn⟩)
          · exact .inl (.inl h)
          · exact .inl (.inr ⟨h, hn⟩)
          · exact .inr h

theorem withE_asc (l : List Ent) (x : Ent) (h : Asc l) : Asc (withE l x) ∧ ∀ z, z ∈ withE l x ↔ z = x ∨ (z ∈ l ∧ z.1 ≠ x.1) := by
  obtain ⟨i1, i2⟩ := wFold_asc x l h
  unfold withE
  generalize wFold x l = s at *
  obtain ⟨o, d⟩ := s
  cases d with
  | true => obtain ⟨j1, j2, _⟩ := i2 rfl; exact ⟨j1, j2⟩
  | false =>
    obtain ⟨rfl, hlt⟩ := i1 rfl
    simp only [Bool.false_eq_true, if_false]
    refine ⟨List.pairwise_append.2 ⟨h, by simp, fun a ha b hb => by simp at hb; subst hb; exact hlt a ha⟩, ?_⟩
    intro z
    simp only [List.mem_append, List.mem_singleton]
    constructor
    · rintro (h | h)
      · exact .inr ⟨h, by have := hlt z h; omega⟩
      · exact .inl h
    · rintro (h | ⟨h, _⟩)
      · exact .inr h
      · exact .inl h

/-- The merged entries: ascending; each address once, with its last value. -/
theorem mergedE_is (l : List Ent) : Asc (mergedE l) ∧ ∀ k v, (k, v) ∈ mergedE l ↔ lastE l k = some v := by
  suffices H : ∀ r : List Ent, ∀ l : List Ent, r.reverse = l → (Asc (mergedE l) ∧ ∀ k v, (k, v) ∈ mergedE l ↔ lastE l k = some v) from H l.reverse l (by simp)
  intro r
  induction r with
  | nil => intro l hl; subst hl; exact ⟨List.Pairwise.nil, fun k v => by simp [mergedE, lastE]⟩
  | cons y r ih =>
    intro l hl
    subst hl
    obtain ⟨i1, i2⟩ := ih _ rfl
    rw [List.reverse_cons, mergedE_snoc]
    obtain ⟨j1, j2⟩ := withE_asc _ y i1
    refine ⟨j1, fun k v => ?_⟩
    rw [j2, lastE_snoc, i2]
    obtain ⟨a, b⟩ := y
    simp only [Prod.mk.injEq]
    by_cases h : a = k
    · subst h; simp [eq_comm]
    · rw [if_neg h]
      constructor
      · rintro (⟨h1, _⟩ | ⟨h1, _⟩)
        · exact absurd h1.symm h
        · exact h1
      · intro h1; exact .inr ⟨h1, fun e => h e.symm⟩

theorem asc_ext : ∀ (l m : List Ent), Asc l → Asc m → (∀ z, z ∈ l ↔ z ∈ m) → l = m
  | [], [], _, _, _ => rfl
  | [], y :: m, _, _, h => absurd ((h y).2 (by simp)) (by simp)
  | x :: l, [], _, _, h => absurd ((h x).1 (by simp)) (by simp)
  | x :: l, y :: m, hl, hm, h => by
    obtain ⟨l1, l2⟩ := List.pairwise_cons.1 hl
    obtain ⟨m1, m2⟩ := List.pairwise_cons.1 hm
    have hxy : x = y := by
      rcases List.mem_cons.1 ((h x).1 (by simp)) with e | e
      · exact e
      · rcases List.mem_cons.1 ((h y).2 (by simp)) with f | f
        · exact f.symm
        · have a := m1 x e; have b := l1 y f; omega
    subst hxy
    rw [asc_ext l m l2 m2 (fun z => ?_)]
    constructor
    · intro hz
      rcases List.mem_cons.1 ((h z).1 (by simp [hz])) with e | e
      · have := l1 z hz; subst e; omega
      · exact e
    · intro hz
      rcases List.mem_cons.1 ((h z).2 (by simp [hz])) with e | e
      · have := m1 z hz; subst e; omega
      · exact e

/-- From ascending addresses and their last values. -/
theorem mergedE_of (l : List Ent) (ks : List Int) (hk : ks.Pairwise (· < ·)) (hm : ∀ k, k ∈ ks ↔ lastE l k ≠ none) :
    mergedE l = ks.map (fun k => (k, (lastE l k).getD 0)) := by
  obtain ⟨i1, i2⟩ := mergedE_is l
  refine asc_ext _ _ i1 ?_ ?_
  · exact List.pairwise_map.2 (hk.imp fun h => h)
  · rintro ⟨k, v⟩
    rw [i2, List.mem_map]
    constructor
    · intro h; exact ⟨k, (hm k).2 (by rw [h]; simp), by rw [h]; rfl⟩
    · rintro ⟨k', hk', e⟩
      simp only [Prod.mk.injEq] at e
      obtain ⟨rfl, e2⟩ := e
      have := (hm k').1 hk'
      cases hq : lastE l k' with
      | none => exact absurd hq this
      | some q => rw [hq] at e2; simp at e2; rw [e2]

end Go.Proofs.YtlolaieolgmdnaaDoor
