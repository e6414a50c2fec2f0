/-
  Arguments with slices inside: opened down to what lies in the heap.
-/
import Derived.Test.YtlolaieolgmdnaaDoorOpn

import Derived.Deep.DeepHandedRow

namespace Go.Proofs.YtlolaieolgmdnaaDoor

open Go.RowKit
set_option linter.unusedVariables false
set_option linter.unusedSimpArgs false
set_option maxRecDepth 10000

section

variable {H : Type} {enc : TypeId × Value → H} {P : Program} {w : World} {base : Nat} {sp : Nat → Bool} {held : Bool}

/-- What reads as a value of a type. -/
def Rds (enc : TypeId × Value → H) (P : Program) (w : World) (base : Nat) (sp : Nat → Bool) (held : Bool) (t : TypeId) (cs : List Value) : Prop := ∃ (fuel : Nat) (x : DataW H × List MemPlace), DataW.trod enc P w base sp held fuel t cs = some x

theorem Rds.field {t : Nat} {fs : Array Field} {cs : List Value} (ht : P.underlying t = some (.struct fs)) (h : Rds enc P w base sp held t cs) {i : Nat} {f : Field} (hf : fs[i]? = some f) : Rds enc P w base sp held f.type ((cs.drop f.offset).take (P.cellsOf f.type)) := by
  obtain ⟨fuel, x, hx⟩ := h
  obtain ⟨xs, m, -, -, hl, hxl, hg⟩ := DataW.trod_struct ht hx
  have hi := (Array.getElem?_eq_some_iff.1 hf).1
  have := hg i f hf
  rw [List.getElem?_eq_getElem (by omega)] at this
  exact ⟨_, _, this⟩
theorem Rds.slen {t : Nat} {fs : Array Field} {cs : List Value} (ht : P.underlying t = some (.struct fs)) (h : Rds enc P w base sp held t cs) : cs.length = P.cellsOf t := by
  obtain ⟨fuel, x, hx⟩ := h
  obtain ⟨xs, m, -, -, hl, -⟩ := DataW.trod_struct ht hx
  exact hl
theorem Rds.elem {t e n : Nat} {cs : List Value} (ht : P.underlying t = some (.array n e)) (h : Rds enc P w base sp held t cs) {i : Nat} (hi : i < n) : Rds enc P w base sp held e ((cs.drop (i * P.cellsOf e)).take (P.cellsOf e)) := by
  obtain ⟨fuel, x, hx⟩ := h
  obtain ⟨xs, m, -, -, hl, hxl, hg⟩ := DataW.trod_array ht hx
  have := hg i hi
  rw [List.getElem?_eq_getElem (by omega)] at this
  exact ⟨_, _, this⟩
theorem Rds.int {t : Nat} {cs : List Value} (ht : P.underlying t = some (.int .i64)) (h : Rds enc P w base sp held t cs) : ∃ k : Int, cs = [.int .i64 k] ∧ i64 k := by
  obtain ⟨fuel, x, hx⟩ := h
  obtain ⟨k, rfl, -, hw⟩ := DataW.trod_int ht hx
  refine ⟨k, rfl, ?_⟩
  simp only [Lit.wf, Bool.and_eq_true, decide_eq_true_eq] at hw
  have h1 : IntKind.min .i64 = -9223372036854775808 := by decide
  have h2 : IntKind.max .i64 = 9223372036854775807 := by decide
  unfold i64; omega
theorem Rds.bool {t : Nat} {cs : List Value} (ht : P.underlying t = some .bool) (h : Rds enc P w base sp held t cs) : ∃ b : Bool, cs = [.bool b] := by
  obtain ⟨fuel, x, hx⟩ := h
  cases fuel with
  | zero => simp [DataW.trod] at hx
  | succ n =>
    unfold DataW.trod at hx
    rw [ht] at hx
    split at hx <;> simp_all

/-- A slice, opened to its elements' rows. -/
theorem Rds.slice {t e n : Nat} {cs : List Value} (ht : P.underlying t = some (.slice e)) (hc : P.cellsOf e = n) (hn : 0 < n) (h : Rds enc P w base sp held t cs) :
    ∃ (L : List (List Value)) (a : Option Addr) (cap : Nat), cs = [.slice a L.length cap] ∧ L.length ≤ 9223372036854775807 ∧ (∀ r ∈ L, r.length = n ∧ Rds enc P w base sp held e r) ∧ slAt w (.slice a L.length cap) L.length L.flatten := by
  obtain ⟨fuel, x, h⟩ := h
  rcases Go.Deep.open_slice ht h with ⟨rfl, -⟩ | ⟨a, len, cap, m, f, D, Pl, rfl, -, hl, hm, hmm, -, hx⟩
  · exact ⟨[], none, 0, rfl, by simp, by simp, none, 0, rfl, Nat.le_refl _, fun _ => rfl, fun b o sp e => by cases e⟩
  · have hlm : len ≤ m := by rw [hmm]; split <;> omega
    have each : ∀ i, i < len → ∃ r : List Value, (r.length = n ∧ Rds enc P w base sp held e r) ∧ ∀ j v, r[j]? = some v → w.cell? (a.add (i * n + j)) = some v := by
      intro i hi'
      obtain ⟨cs', h1, h2⟩ := hx i (by omega)
      rw [hc] at h1
      obtain ⟨-, hlen, hcell⟩ := World.cells?_some h1
      refine ⟨cs', ⟨hlen, _, _, h2⟩, fun j v hj => ?_⟩
      have hjl := (List.getElem?_eq_some_iff.1 hj).1
      have := hcell j (by omega)
      rw [Go.Deep.add_add, hj] at this; exact this
    obtain ⟨g, hg⟩ := Go.Deep.choose_lt each
    have hmx : maxLen = 9223372036854775807 := rfl
    refine ⟨(List.range len).map g, some a, cap, by simp, by simp; omega, fun r hr => ?_, some a, cap, by simp, by simp; omega, (fun e => by cases e), fun b o s e => ?_⟩
    · obtain ⟨i, hi', rfl⟩ := List.mem_map.1 hr
      exact (hg i (List.mem_range.1 hi')).1
    · cases e
      rcases Nat.eq_zero_or_pos len with h0 | hpos
      · subst h0; left; simp
      · right
        have hs : s = none := by
          have h0 := (hg 0 hpos)
          obtain ⟨k, hk⟩ : ∃ k, (g 0)[0]? = some k := ⟨_, List.getElem?_eq_getElem (by rw [h0.1.1]; exact hn)⟩
          have h1 := h0.2 0 k hk
          cases s with
          | none => rfl
          | some q =>
            rw [show (⟨b, o, some q⟩ : Addr).add (0 * n + 0) = ⟨b, o, some q⟩ by simp [Addr.add]] at h1
            unfold World.cell? at h1
            split at h1
            · simp at h1
            · cases h1
        subst hs
        refine ⟨rfl, fun j v hj => ?_⟩
        let en : Nat → List Value := fun i => if i < len then g i else List.replicate n (iV 0)
        have hen : ∀ i, (en i).length = n := fun i => by
          show (if i < len then g i else List.replicate n (iV 0)).length = n
          split
          · rename_i h; exact (hg i h).1.1
          · simp
        have hrw : (List.range len).map g = (List.range len).map en := by
          refine List.map_congr_left fun i hi' => ?_
          show g i = if i < len then g i else List.replicate n (iV 0)
          rw [if_pos (List.mem_range.1 hi')]
        rw [hrw] at hj
        have hjl := (List.getElem?_eq_some_iff.1 hj).1
        rw [rows_length en n hen, List.length_range] at hjl
        have hil : j / n < len := Nat.div_lt_of_lt_mul (by rw [Nat.mul_comm]; exact hjl)
        have hmod := Nat.mod_lt j hn
        have hdm := Nat.div_add_mod j n
        rw [Nat.mul_comm] at hdm
        rw [← hdm, rows_cell en n hen (List.range len) (j / n) (j / n) (by simp [hil]) (j % n) hmod] at hj
        have he : en (j / n) = g (j / n) := if_pos hil
        rw [he] at hj
        have := (hg _ hil).2 (j % n) v hj
        rw [add_none, hdm] at this
        exact this

/-- .. by elements. -/
theorem Rds.sliceT {α : Type} {encC : α → List Value} {Q : α → Prop} {t e n : Nat} {cs : List Value} (ht : P.underlying t = some (.slice e)) (hc : P.cellsOf e = n) (hn : 0 < n)
    (hel : ∀ r : List Value, r.length = n → Rds enc P w base sp held e r → ∃ x, encC x = r ∧ Q x) (h : Rds enc P w base sp held t cs) :
    ∃ (l : List α) (a : Option Addr) (cap : Nat), cs = [.slice a l.length cap] ∧ l.length ≤ 9223372036854775807 ∧ (∀ x ∈ l, Q x) ∧ slAt w (.slice a l.length cap) l.length ((l.map encC).flatten) := by
  obtain ⟨L, a, cap, rfl, h2, h3, h4⟩ := h.slice ht hc hn
  have : ∃ l : List α, L = l.map encC ∧ ∀ x ∈ l, Q x := by
    clear h4 h2 h
    induction L with
    | nil => exact ⟨[], rfl, by simp⟩
    | cons r L ih =>
      obtain ⟨l, rfl, hl⟩ := ih fun q hq => h3 q (by simp [hq])
      obtain ⟨x, rfl, hx⟩ := hel r (h3 r (by simp)).1 (h3 r (by simp)).2
      exact ⟨x :: l, rfl, by simp [hx]; exact hl⟩
  obtain ⟨l, rfl, hl⟩ := this
  rw [List.length_map] at h2 h4 ⊢
  exact ⟨l, a, cap, rfl, h2, hl, h4⟩

theorem Rds.ints {t e : Nat} {cs : List Value} (ht : P.underlying t = some (.slice e)) (he : P.underlying e = some (.int .i64)) (hc : P.cellsOf e = 1) (h : Rds enc P w base sp held t cs) :
    ∃ (l : List Int) (a : Option Addr) (cap : Nat), cs = [.slice a l.length cap] ∧ l.length ≤ 9223372036854775807 ∧ (∀ x ∈ l, i64 x) ∧ slAt w (.slice a l.length cap) l.length ((l.map intC).flatten) :=
  h.sliceT (encC := intC) ht hc (by omega) fun r hr hR => by
    obtain ⟨k, rfl, hk⟩ := hR.int he
    exact ⟨k, rfl, hk⟩

theorem Rds.of {t : Nat} {v : Value} {dd : DataW H} {p : List MemPlace} (h : DataW.Trod enc P w base sp held t v dd p) : Rds enc P w base sp held t v.cells.toList := ⟨h.choose, _, h.choose_spec⟩
theorem Rds.ofS {t e : Nat} {r : Reach} {b0 : Nat} {v : Value} {dd : DataW H} {p : List MemPlace} (ht : P.underlying t = some (.slice e)) (hv : Value.okWide P w r b0 t v) (h : DataW.Trod enc P w base sp held t v dd p) : Rds enc P w base sp held t [v] := by
  have h1 := Rds.of h
  rw [Value.cells_one (okWide_slice ht hv)] at h1
  exact h1

theorem Rds.arr {t e n : Nat} {r : Reach} {b0 : Nat} {v : Value} {dd : DataW H} {p : List MemPlace} (ht : P.underlying t = some (.array n e)) (hv : Value.okWide P w r b0 t v) (h : DataW.Trod enc P w base sp held t v dd p) :
    ∃ cs : Array Value, v = .agg cs ∧ cs.size = P.cellsOf t ∧ Rds enc P w base sp held t cs.toList := by
  have h1 := Rds.of h
  unfold Value.okWide at hv
  rw [ht] at hv
  obtain ⟨cs, rfl, hs, _⟩ := hv
  exact ⟨cs, rfl, hs, h1⟩

theorem array2 {α : Type} {cs : Array α} (h : cs.size = 2) : ∃ a0 a1, cs = #[a0, a1] := by
  obtain ⟨l⟩ := cs
  match l, h with
  | [a0, a1], _ => exact ⟨a0, a1, rfl⟩

/-- An array of two of one cell each. -/
theorem open_arr2 {t e : Nat} {r : Reach} {b0 : Nat} {v : Value} {dd : DataW H} {p : List MemPlace} (ht : P.underlying t = some (.array 2 e)) (hc : P.cellsOf t = 2) (he : P.cellsOf e = 1)
    (hv : Value.okWide P w r b0 t v) (h : DataW.Trod enc P w base sp held t v dd p) : ∃ c0 c1 : Value, v = .agg #[c0, c1] ∧ Rds enc P w base sp held e [c0] ∧ Rds enc P w base sp held e [c1] := by
  obtain ⟨cs, rfl, hs, g⟩ := Rds.arr ht hv h
  obtain ⟨c0, c1, rfl⟩ := array2 (hs.trans hc)
  have g0 := g.elem ht (i := 0) (by decide)
  have g1 := g.elem ht (i := 1) (by decide)
  rw [he] at g0 g1
  exact ⟨c0, c1, rfl, g0, g1⟩

/-! ### Readings weighed -/

def RdsD (enc : TypeId × Value → H) (P : Program) (w : World) (base : Nat) (sp : Nat → Bool) (held : Bool) (t : TypeId) (cs : List Value) (d : DataW H) : Prop := ∃ (fuel : Nat) (ps : List MemPlace), DataW.trod enc P w base sp held fuel t cs = some (d, ps)
theorem RdsD.rds {t : Nat} {cs : List Value} {d : DataW H} (h : RdsD enc P w base sp held t cs d) : Rds enc P w base sp held t cs := ⟨h.choose, _, h.choose_spec.choose_spec⟩

/-- A slice's elements and their readings. -/
theorem RdsD.slice {t e n : Nat} {cs : List Value} {d : DataW H} (ht : P.underlying t = some (.slice e)) (hc : P.cellsOf e = n) (hn : 0 < n) (h : RdsD enc P w base sp held t cs d) :
    ∃ (L : List (List Value × DataW H)) (a : Option Addr) (cap : Nat), cs = [.slice a L.length cap] ∧ L.length ≤ 9223372036854775807 ∧ (∀ r ∈ L, r.1.length = n ∧ RdsD enc P w base sp held e r.1 r.2) ∧ slAt w (.slice a L.length cap) L.length (L.map (·.1)).flatten ∧
      (d = .nil ∧ L = [] ∨ ∃ spare, d = .slice (L.map (·.2)) spare) := by
  obtain ⟨fuel, ps, h⟩ := h
  rcases Go.Deep.open_slice ht h with ⟨rfl, hd⟩ | ⟨a, len, cap, m, f, D, Pl, rfl, -, hl, hm, hmm, hd, hx⟩
  · injection hd with hd _
    exact ⟨[], none, 0, rfl, by simp, by simp, ⟨none, 0, rfl, Nat.le_refl _, fun _ => rfl, fun b o sp e => by cases e⟩, .inl ⟨hd, rfl⟩⟩
  · injection hd with hd _
    have hlm : len ≤ m := by rw [hmm]; split <;> omega
    have each : ∀ i, i < len → ∃ r : List Value, (r.length = n ∧ RdsD enc P w base sp held e r (D i)) ∧ ∀ j v, r[j]? = some v → w.cell? (a.add (i * n + j)) = some v := by
      intro i hi'
      obtain ⟨cs', h1, h2⟩ := hx i (by omega)
      rw [hc] at h1
      obtain ⟨-, hlen, hcell⟩ := World.cells?_some h1
      refine ⟨cs', ⟨hlen, _, _, h2⟩, fun j v hj => ?_⟩
      have hjl := (List.getElem?_eq_some_iff.1 hj).1
      have := hcell j (by omega)
      rw [Go.Deep.add_add, hj] at this; exact this
    obtain ⟨g, hg⟩ := Go.Deep.choose_lt each
    have hmx : maxLen = 9223372036854775807 := rfl
    refine ⟨(List.range len).map fun i => (g i, D i), some a, cap, by simp, by simp; omega, fun r hr => ?_, ⟨some a, cap, by simp, by simp; omega, (fun e => by cases e), fun b o s e => ?_⟩, .inr ⟨_, by rw [hd, List.map_map]; rfl⟩⟩
    · obtain ⟨i, hi', rfl⟩ := List.mem_map.1 hr
      exact (hg i (List.mem_range.1 hi')).1
    · cases e
      rcases Nat.eq_zero_or_pos len with h0 | hpos
      · subst h0; left; simp
      · right
        have hs : s = none := by
          have h0 := (hg 0 hpos)
          obtain ⟨k, hk⟩ : ∃ k, (g 0)[0]? = some k := ⟨_, List.getElem?_eq_getElem (by rw [h0.1.1]; exact hn)⟩
          have h1 := h0.2 0 k hk
          cases s with
          | none => rfl
          | some q =>
            rw [show (⟨b, o, some q⟩ : Addr).add (0 * n + 0) = ⟨b, o, some q⟩ by simp [Addr.add]] at h1
            unfold World.cell? at h1
            split at h1
            · simp at h1
            · cases h1
        subst hs
        refine ⟨rfl, fun j v hj => ?_⟩
        let en : Nat → List Value := fun i => if i < len then g i else List.replicate n (iV 0)
        have hen : ∀ i, (en i).length = n := fun i => by
          show (if i < len then g i else List.replicate n (iV 0)).length = n
          split
          · rename_i h; exact (hg i h).1.1
          · simp
        have hrw : ((List.range len).map fun i => (g i, D i)).map (·.1) = (List.range len).map en := by
          rw [List.map_map]
          refine List.map_congr_left fun i hi' => ?_
          show g i = if i < len then g i else List.replicate n (iV 0)
          rw [if_pos (List.mem_range.1 hi')]
        rw [hrw] at hj
        have hjl := (List.getElem?_eq_some_iff.1 hj).1
        rw [rows_length en n hen, List.length_range] at hjl
        have hil : j / n < len := Nat.div_lt_of_lt_mul (by rw [Nat.mul_comm]; exact hjl)
        have hmod := Nat.mod_lt j hn
        have hdm := Nat.div_add_mod j n
        rw [Nat.mul_comm] at hdm
        rw [← hdm, rows_cell en n hen (List.range len) (j / n) (j / n) (by simp [hil]) (j % n) hmod] at hj
        have he : en (j / n) = g (j / n) := if_pos hil
        rw [he] at hj
        have := (hg _ hil).2 (j % n) v hj
        rw [add_none, hdm] at this
        exact this

theorem bulk_sum (l : List (DataW H)) : Rows.uptoBulkAll l = (l.map Rows.uptoBulk).sum := by
  induction l with
  | nil => simp [Rows.uptoBulkAll]
  | cons x r ih => simp [Rows.uptoBulkAll, ih]

/-- .. by elements, weighed: what each element counts, all together count no more than the whole. -/
theorem RdsD.sliceT {α : Type} {encC : α → List Value} {Q : α → Prop} (f : α → Nat) {t e n : Nat} {cs : List Value} {d : DataW H} (ht : P.underlying t = some (.slice e)) (hc : P.cellsOf e = n) (hn : 0 < n)
    (hel : ∀ (r : List Value) (x : DataW H), r.length = n → RdsD enc P w base sp held e r x → ∃ y, encC y = r ∧ Q y ∧ f y ≤ Rows.uptoBulk x) (h : RdsD enc P w base sp held t cs d) :
    ∃ (l : List α) (a : Option Addr) (cap : Nat), cs = [.slice a l.length cap] ∧ l.length ≤ 9223372036854775807 ∧ (∀ x ∈ l, Q x) ∧ slAt w (.slice a l.length cap) l.length ((l.map encC).flatten) ∧ (l.map f).sum + 1 ≤ Rows.uptoBulk d := by
  obtain ⟨L, a, cap, rfl, h2, h3, h4, h5⟩ := h.slice ht hc hn
  have hb : (L.map fun r => Rows.uptoBulk r.2).sum + 1 ≤ Rows.uptoBulk d := by
    rcases h5 with ⟨rfl, rfl⟩ | ⟨sp, rfl⟩
    · simp [Rows.uptoBulk]
    · have e1 := bulk_sum (L.map (·.2))
      rw [List.map_map] at e1
      simp only [Rows.uptoBulk]
      have : (L.map fun r => Rows.uptoBulk r.2).sum = Rows.uptoBulkAll (L.map (·.2)) := e1.symm
      omega
  have : ∃ l : List α, L.map (·.1) = l.map encC ∧ (∀ x ∈ l, Q x) ∧ (l.map f).sum ≤ (L.map fun r => Rows.uptoBulk r.2).sum := by
    clear h4 h2 h h5 hb
    induction L with
    | nil => exact ⟨[], rfl, by simp, by simp⟩
    | cons r L ih =>
      obtain ⟨l, hl1, hl, hl3⟩ := ih fun q hq => h3 q (by simp [hq])
      obtain ⟨y, hy1, hy2, hy3⟩ := hel r.1 r.2 (h3 r (by simp)).1 (h3 r (by simp)).2
      exact ⟨y :: l, by simp [hy1, hl1], by simp [hy2]; exact hl, by simp; omega⟩
  obtain ⟨l, hl1, hl, hl3⟩ := this
  have hlen : L.length = l.length := by have := congrArg List.length hl1; simpa using this
  rw [hl1, hlen] at h4
  rw [hlen] at h2 ⊢
  exact ⟨l, a, cap, rfl, h2, hl, h4, by omega⟩

theorem RdsD.of {t : Nat} {v : Value} {dd : DataW H} {p : List MemPlace} (h : DataW.Trod enc P w base sp held t v dd p) : RdsD enc P w base sp held t v.cells.toList dd := ⟨h.choose, _, h.choose_spec⟩
theorem RdsD.ofS {t e : Nat} {r : Reach} {b0 : Nat} {v : Value} {dd : DataW H} {p : List MemPlace} (ht : P.underlying t = some (.slice e)) (hv : Value.okWide P w r b0 t v) (h : DataW.Trod enc P w base sp held t v dd p) : RdsD enc P w base sp held t [v] dd := by
  have h1 := RdsD.of h
  rw [Value.cells_one (okWide_slice ht hv)] at h1
  exact h1

theorem RdsD.struct {t : Nat} {fs : Array Field} {cs : List Value} {d : DataW H} (ht : P.underlying t = some (.struct fs)) (h : RdsD enc P w base sp held t cs d) :
    cs.length = P.cellsOf t ∧ ∃ ds : List (DataW H), d = .agg ds ∧ ds.length = fs.size ∧ ∀ (i : Nat) (f : Field), fs[i]? = some f → ∃ x, ds[i]? = some x ∧ RdsD enc P w base sp held f.type ((cs.drop f.offset).take (P.cellsOf f.type)) x := by
  obtain ⟨fuel, ps, hx⟩ := h
  obtain ⟨xs, m, -, hd, hl, hxl, hg⟩ := DataW.trod_struct ht hx
  injection hd with hd _
  refine ⟨hl, _, hd, by simp [hxl], fun i f hf => ?_⟩
  have hi := (Array.getElem?_eq_some_iff.1 hf).1
  have h1 := hg i f hf
  rw [List.getElem?_eq_getElem (by omega)] at h1
  exact ⟨xs[i].1, by rw [List.getElem?_map, List.getElem?_eq_getElem (by omega)]; rfl, _, xs[i].2, h1⟩

theorem bulk_part {d : DataW H} : ∀ {ds : List (DataW H)} {i : Nat}, ds[i]? = some d → Rows.uptoBulk d ≤ Rows.uptoBulkAll ds
  | [], i, h => by simp at h
  | x :: r, 0, h => by simp at h; subst h; simp only [Rows.uptoBulkAll]; omega
  | x :: r, i + 1, h => by
    have := bulk_part (ds := r) (i := i) (by simpa using h)
    simp only [Rows.uptoBulkAll]; omega

theorem bulk_pos (d : DataW H) : 1 ≤ Rows.uptoBulk d := by
  cases d with
  | lit l => cases l <;> simp [Rows.uptoBulk]
  | nil => simp [Rows.uptoBulk]
  | ptr d => simp [Rows.uptoBulk]
  | slice elems spare => simp [Rows.uptoBulk]
  | agg parts => simp [Rows.uptoBulk]
  | iface t d => simp [Rows.uptoBulk]
  | map entries => simp [Rows.uptoBulk]
  | held h => simp [Rows.uptoBulk]

theorem sum_ones {α : Type} (l : List α) : (l.map fun _ => 1).sum = l.length := by
  induction l with
  | nil => rfl
  | cons x l ih => simp [ih]; omega

/-- A slice of elements of ints, weighed. -/
theorem RdsD.intsT {α : Type} {encL : α → List Int} {encC : α → List Value} (he : ∀ x, encC x = (encL x).map iV) {t e d n : Nat} (hsur : ∀ r : List Int, r.length = n → ∃ x, encL x = r) {cs : List Value} {dd : DataW H}
    (ht : P.underlying t = some (.slice e)) (hi : intsT P d e = some n) (hc : P.cellsOf e = n) (hn : 0 < n) (h : RdsD enc P w base sp held t cs dd) :
    ∃ (l : List α) (a : Option Addr) (cap : Nat), cs = [.slice a l.length cap] ∧ l.length ≤ 9223372036854775807 ∧ (∀ x ∈ l, ∀ k ∈ encL x, i64 k) ∧ slAt w (.slice a l.length cap) l.length ((l.map encC).flatten) ∧ l.length + 1 ≤ Rows.uptoBulk dd := by
  obtain ⟨l, a, cap, e, h1, h2, h3, h4⟩ := h.sliceT (encC := encC) (Q := fun x => ∀ k ∈ encL x, i64 k) (fun _ => 1) ht hc hn fun r x hr hx => by
    obtain ⟨fuel, ps, hh⟩ := hx
    obtain ⟨-, hall⟩ := trod_ints d _ n hi hc _ _ _ hh
    obtain ⟨q, rfl, hq⟩ := ints_of r hall
    obtain ⟨y, rfl⟩ := hsur q (by simpa using hr)
    exact ⟨y, he y, hq, bulk_pos x⟩
  rw [sum_ones] at h4
  exact ⟨l, a, cap, e, h1, h2, h3, h4⟩

/-- An input that fits a row. -/
theorem witness_rowS {C : Checked} {os : Os} {f : FuncId} {fn : Func} {s : OpenSpec} {conds : List PathCond} {apart : Bool} {laid : List (String × DataW Unit)} (modest : Bool) (w0 : World) (args : Array Value) (hos : w0.os = os)
    (hsh : (w0.forCall (fun _ _ => 0) ⟨#[], args, []⟩).Shaped C.prog)
    (hok : Input.okWideB C.prog (w0.forCall (fun _ _ => 0) ⟨#[], args, []⟩) f ⟨#[], args, []⟩ = true)
    (hrow : s.preRow enc C.prog fn conds apart laid (w0.forCall (fun _ _ => 0) ⟨#[], args, []⟩).memory args) :
    ∃ (w : World) (tape : Tape) (i : Input), w.os = os ∧ (w.forCall tape i).Shaped C.prog ∧ i.vars = [] ∧ Input.okWide C.prog (w.forCall tape i) .any w.heap.size f i ∧
      s.preRow enc C.prog fn conds apart laid (w.forCall tape i).memory i.args ∧ ({ modest := modest } : Assume).holds C.prog (lone (Frame.enter C.prog f i.args .normal) [] (w.forCall tape i)) :=
  ⟨w0, fun _ _ => 0, ⟨#[], args, []⟩, hos, hsh, (Input.okWide_of_okWideB (base := 0) hok).1, (Input.okWide_of_okWideB hok).2, hrow, by
    simp only [Assume.holds]
    exact ⟨by simp, by simp, fun _ => Modest.zero, by simp, by simp⟩⟩

end

end Go.Proofs.YtlolaieolgmdnaaDoor
