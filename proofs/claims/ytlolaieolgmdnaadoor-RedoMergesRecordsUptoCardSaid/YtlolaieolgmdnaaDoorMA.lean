/-
  The memory under test: Lines, has, State, what a line shows.
-/
import Derived.Test.YtlolaieolgmdnaaDoorMem

import Derived.Test.YtlolaieolgmdnaaDoorSh1

namespace Go.Proofs.YtlolaieolgmdnaaDoor

open Go.RowKit
set_option linter.unusedVariables false
set_option linter.unusedSimpArgs false
set_option maxRecDepth 10000

section

variable {c : Cx} {Γ : List HProp} {w : World} {m : Nat} {M : MemS} {lv ev : Value} {ps : List Value} {mb ck : Nat} {es : Array MapEntry}

/-- The lines' slice. -/
theorem MemR.sl (R : MemR c m M lv ps mb es ck ev) (H : Sat c Γ w) : ∃ a cap, lv = .slice a M.L.length cap ∧ M.L.length ≤ cap ∧ (a = none → M.L.length = 0) ∧
    ∀ b o sp, a = some ⟨b, o, sp⟩ → M.L.length = 0 ∨ (sp = none ∧ cellsAt w b o (((M.L.zip ps).map lnC).flatten)) := R.lines.slR H

theorem Lines_sp (R : MemR c m M lv ps mb es ck ev) (H : Sat c Γ w) :
    Calls Tryd.prog 13 #[.pointer (some ⟨m, 0, none⟩)] w (Rt (Yes c Γ (.int .i64 (M.L.length : Int)))) := by
  obtain ⟨a, cap, rfl, -⟩ := R.sl H
  have h1 := R.top
  refine memory_Memory_Lines_ok ?_
  unfold memory_Memory_Lines_w
  (with_reducible (repeat (first | refine pu_st ?_ | refine bn_st ?_)))
  (refine bn_load1 (At.cell h1 H rfl) ?_; (with_reducible (repeat (first | refine pu_st ?_ | refine bn_st ?_))))
  exact ⟨rfl, H⟩

theorem has_sp (k : Int) (R : MemR c m M lv ps mb es ck ev) (H : Sat c Γ w) :
    Calls Tryd.prog 41 #[.pointer (some ⟨m, 0, none⟩), .int .i64 k] w (Rt (Yes c Γ (.bool (decide (0 ≤ k ∧ k < M.L.length))))) := by
  obtain ⟨a, cap, rfl, -⟩ := R.sl H
  have h1 := R.top
  refine memory_Memory_has_ok ?_
  unfold memory_Memory_has_w
  (with_reducible (repeat (first | refine pu_st ?_ | refine bn_st ?_)))
  refine condD (fun h0 => ?_) (fun h0 => ?_)
  · (with_reducible (repeat (first | refine pu_st ?_ | refine bn_st ?_)))
    (refine bn_load1 (At.cell h1 H rfl) ?_; (with_reducible (repeat (first | refine pu_st ?_ | refine bn_st ?_))))
    exact ⟨by simp [h0], H⟩
  · exact ⟨by simp [h0], H⟩

/-- A line of the memory, where it can be read. -/
def LineR (c : Cx) (b a : Nat) (y : LineS) (p : Value) : Prop := ∀ {Γ : List HProp} {w : World}, Sat c Γ w → ∀ (j : Nat) (v : Value), (lnC (y, p))[j]? = some v → w.cell? ⟨b, a + j, none⟩ = some v

theorem LineR.words {b a : Nat} {y : LineS} {p : Value} (h : LineR c b a y p) (H : Sat c Γ w) : cellsAt w b a (w8C y.x) := fun j v hj => h H j v (by
  rcases j with _ | _ | _ | _ | _ | _ | _ | _ | j <;> first | exact hj | (simp [w8C] at hj))
theorem LineR.code {b a : Nat} {y : LineS} {p : Value} (h : LineR c b a y p) (H : Sat c Γ w) : w.cell? ⟨b, a + 8, none⟩ = some (.int .i64 y.c) := h H 8 _ rfl
theorem LineR.pend {b a : Nat} {y : LineS} {p : Value} (h : LineR c b a y p) (H : Sat c Γ w) : w.cell? ⟨b, a + 9, none⟩ = some p := h H 9 _ rfl
theorem LineR.mark {b a : Nat} {y : LineS} {p : Value} (h : LineR c b a y p) (H : Sat c Γ w) : w.cell? ⟨b, a + 10, none⟩ = some (.int .i64 y.mark) := h H 10 _ rfl

theorem MemR.line {n : Nat} {y : LineS} (R : MemR c m M lv ps mb es ck ev) (H : Sat c Γ w) (hy : M.L[n]? = some y) : ∃ b o cap p, lv = .slice (some ⟨b, o, none⟩) M.L.length cap ∧ M.L.length ≤ cap ∧ ps[n]? = some p ∧ At c (pendH (y, p)) ∧ LineR c b (o + n * 11) y p := by
  have hlt : n < M.L.length := (List.getElem?_eq_some_iff.1 hy).1
  obtain ⟨p, hp⟩ : ∃ p, ps[n]? = some p := ⟨ps[n]'(by rw [R.len]; exact hlt), List.getElem?_eq_getElem _⟩
  have hz : (M.L.zip ps)[n]? = some (y, p) := by rw [List.getElem?_zip_eq_some]; exact ⟨hy, hp⟩
  obtain ⟨a, cap, rfl, hle, hn, hc⟩ := R.sl H
  obtain ⟨⟨b, o, sp⟩, rfl⟩ : ∃ x, a = some x := by
    cases a with
    | none => exact absurd (hn rfl) (by omega)
    | some x => exact ⟨x, rfl⟩
  rcases hc b o sp rfl with h | ⟨rfl, -⟩
  · omega
  refine ⟨b, o, cap, p, rfl, hle, hp, R.pend _ (List.mem_of_getElem? hz), ?_⟩
  intro Γ' w' H' j v hj
  obtain ⟨a', cap', e, -, -, hc'⟩ := R.sl H'
  cases e
  rcases hc' b o none rfl with h | ⟨-, h⟩
  · omega
  have hj11 : j < 11 := by
    have := (List.getElem?_eq_some_iff.1 hj).1
    rwa [lnC_len] at this
  rw [Nat.add_assoc]
  exact h _ _ (by rw [rows_cell lnC 11 lnC_len _ n _ hz j hj11]; exact hj)

/-- The state of a line. -/
def stateM (L : List LineS) (k : Int) : Int := if 0 ≤ k then (match L[k.toNat]? with | some y => (chk y.x y.c).1 | none => -1) else -1

theorem State_sp (k : Int) (R : MemR c m M lv ps mb es ck ev) (hT : TabC c) (H : Sat c Γ w) :
    Calls Tryd.prog 27 #[.pointer (some ⟨m, 0, none⟩), .int .i64 k] w (Rt (Yes c Γ (.int .i64 (stateM M.L k)))) := by
  have h1 := R.top
  refine memory_Memory_State_ok ?_
  unfold memory_Memory_State_w
  refine Cl.of memory_Memory_has_en (has_sp k R H) ?_
  rintro _ w ⟨rfl, H⟩
  (with_reducible (repeat (first | refine pu_st ?_ | refine bn_st ?_)))
  refine condND (fun hk => ?_) (fun hk => ?_)
  · refine ⟨?_, H⟩
    unfold stateM
    split
    · rename_i h0
      rw [List.getElem?_eq_none (by omega)]
    · rfl
  · obtain ⟨n, rfl⟩ : ∃ n : Nat, k = n := ⟨k.toNat, by omega⟩
    obtain ⟨y, hy⟩ : ∃ y, M.L[n]? = some y := ⟨M.L[n]'(by omega), List.getElem?_eq_getElem _⟩
    obtain ⟨b, o, cap, p, rfl, hle, hp, -, hl⟩ := R.line H hy
    have hlt : n < M.L.length := (List.getElem?_eq_some_iff.1 hy).1
    (refine ⟨Sat _ _, Sat _ _, Sat.drew H, fun _ h => h, ?_⟩; (with_reducible (repeat (first | refine pu_st ?_ | refine bn_st ?_))))
    (refine ⟨_, fun w H => run_load1 (At.cell h1 H rfl), ?_⟩; (with_reducible (repeat (first | refine pu_st ?_ | refine bn_st ?_))))
    refine pu_indexN hlt ?_
    (with_reducible (repeat (first | refine pu_st ?_ | refine bn_st ?_)))
    (refine ⟨_, fun w H => run_loadN rfl (hl.words H), ?_⟩; (with_reducible (repeat (first | refine pu_st ?_ | refine bn_st ?_))))
    (refine ⟨_, fun w H => run_load1 (At.cell h1 H rfl), ?_⟩; (with_reducible (repeat (first | refine pu_st ?_ | refine bn_st ?_))))
    refine pu_indexN hlt ?_
    (with_reducible (repeat (first | refine pu_st ?_ | refine bn_st ?_)))
    (refine ⟨_, fun w H => run_load1 (hl.code H), ?_⟩; (with_reducible (repeat (first | refine pu_st ?_ | refine bn_st ?_))))
    (refine ⟨fun w H => ?_, trivial⟩; (with_reducible (repeat (first | refine pu_st ?_ | refine bn_st ?_))))
    refine Cl.of (by kernel_rfl) (of_RetB H (Check_any y.x y.c w (hT H))) ?_
    rintro _ w ⟨rfl, H⟩
    (refine ⟨Sat _ _, Sat _ _, H, fun _ h => h, (by first | trivial | exact fun _ h => h | exact fun _ h => h.tail | exact fun _ h => h.tail.tail), ?_⟩; (with_reducible (repeat (first | refine pu_st ?_ | refine bn_st ?_))))
    (intro w H; (with_reducible (repeat (first | refine pu_st ?_ | refine bn_st ?_))))
    refine ⟨?_, H⟩
    unfold stateM
    rw [if_pos (by omega), Int.toNat_natCast, hy]

/-- Stores laid over a line. -/
def showW (l : W8) (S : List St) : W8 := S.foldl (fun l s => l.set s.1.toNat s.2) l

/-- What a line shows behind stores. -/
def showL (l : W8) (k : Int) (S : List St) : W8 × Int := if (fix l k).2.2 = 0 then (showW (fix l k).1 S, 0) else (zer, (fix l k).2.2)

theorem showW_snoc (l : W8) (S : List St) (s : St) : showW l (S ++ [s]) = (showW l S).set s.1.toNat s.2 := by unfold showW; rw [List.foldl_append]; rfl

theorem w8C_one (l : W8) : ∀ v ∈ w8C l, v.oneCell' = true := by simp [w8C, Value.oneCell']
theorem w8C_set (l : W8) (i : Nat) (v : Int) (hi : i < 8) : (w8C l).set i (.int .i64 v) = w8C (l.set i v) := by
  rcases lt8 hi with rfl | rfl | rfl | rfl | rfl | rfl | rfl | rfl <;> rfl
theorem stC_one (s : St) : ∀ v ∈ stC s, v.oneCell' = true := by simp [stC, Value.oneCell']

theorem take_succ_of {α : Type} {l : List α} {i : Nat} {x : α} (h : l[i]? = some x) : l.take (i + 1) = l.take i ++ [x] := by
  rw [List.take_add_one, h]; rfl

theorem shows_sp {b a : Nat} {y : LineS} {p : Value} (k : Nat) (hk : k ≤ y.p.length) (hb : y.p.length ≤ 1000000) (hw : ∀ s ∈ y.p, 0 ≤ s.1 ∧ s.1 < 8) (hl : LineR c b a y p) (hp : At c (pendH (y, p))) (hT : TabC c) (H : Sat c Γ w) :
    Calls Tryd.prog 42 #[.pointer (some ⟨b, a, none⟩), .int .i64 (k : Int)] w
      (Rt (Yes c Γ (.tuple #[.agg (w8C (showL y.x y.c (y.p.take k)).1).toArray, .int .i64 (showL y.x y.c (y.p.take k)).2]))) := by
  refine memory_line_shows_ok ?_
  unfold memory_line_shows_w
  refine bn_alloc H fun b4 w H => ?_
  generalize hf : fix y.x y.c = f
  refine ⟨fun v6 v8 w => ∃ b6, v6 = .pointer (some ⟨b6, 0, none⟩) ∧ v8 = .int .i64 f.2.2 ∧ Sat c (blk b6 (w8C f.1) 51 :: blk b4 (w8C zer) 51 :: Γ) w, ?_, ?_⟩
  · (refine ⟨Sat _ _, Sat _ _, Sat.drew H, fun _ h => h, ?_⟩; (with_reducible (repeat (first | refine pu_st ?_ | refine bn_st ?_))))
    (refine ⟨_, fun w H => run_loadN rfl (hl.words H), ?_⟩; (with_reducible (repeat (first | refine pu_st ?_ | refine bn_st ?_))))
    (refine ⟨_, fun w H => run_load1 (hl.code H), ?_⟩; (with_reducible (repeat (first | refine pu_st ?_ | refine bn_st ?_))))
    refine ⟨?_, ?_, trivial⟩
    · intro w H
      refine Cl.of (by kernel_rfl) (of_RetB H (Fix_any y.x y.c w (hT H))) ?_
      rintro _ w ⟨rfl, H⟩
      (refine ⟨Sat _ _, Sat _ _, H, fun _ h => h, (by first | trivial | exact fun _ h => h | exact fun _ h => h.tail | exact fun _ h => h.tail.tail), ?_⟩; (with_reducible (repeat (first | refine pu_st ?_ | refine bn_st ?_))))
      (refine ⟨fun w H => ?_, trivial⟩; (with_reducible (repeat (first | refine pu_st ?_ | refine bn_st ?_))))
      refine bn_alloc H fun b6 w H => ?_
      (refine ⟨Sat _ _, Sat _ _, H, fun _ h => h, (by first | trivial | exact fun _ h => h | exact fun _ h => h.tail | exact fun _ h => h.tail.tail), ?_⟩; (with_reducible (repeat (first | refine pu_st ?_ | refine bn_st ?_))))
      (refine ⟨fun w H => ?_, trivial⟩; (with_reducible (repeat (first | refine pu_st ?_ | refine bn_st ?_))))
      refine bn_storeN (vs := w8C (fix y.x y.c).1) H Has.n0 rfl (by simp [w8C]) (w8C_one _) fun w H => ?_
      (refine ⟨Sat _ _, Sat _ _, H, fun _ h => h, (by first | trivial | exact fun _ h => h | exact fun _ h => h.tail | exact fun _ h => h.tail.tail), ?_⟩; (with_reducible (repeat (first | refine pu_st ?_ | refine bn_st ?_))))
      (intro w H; (with_reducible (repeat (first | refine pu_st ?_ | refine bn_st ?_))))
      exact ⟨b6, rfl, by rw [hf], by rw [← hf]; exact H⟩
    · intro w H
      refine bn_alloc H fun b6 w H => ?_
      (refine ⟨Sat _ _, Sat _ _, H, fun _ h => h, (by first | trivial | exact fun _ h => h | exact fun _ h => h.tail | exact fun _ h => h.tail.tail), ?_⟩; (with_reducible (repeat (first | refine pu_st ?_ | refine bn_st ?_))))
      (refine ⟨fun w H => ?_, trivial⟩; (with_reducible (repeat (first | refine pu_st ?_ | refine bn_st ?_))))
      refine Cl.of (by kernel_rfl) (of_RetB H (Fix_any y.x y.c w (hT H))) ?_
      rintro _ w ⟨rfl, H⟩
      (refine ⟨Sat _ _, Sat _ _, H, fun _ h => h, (by first | trivial | exact fun _ h => h | exact fun _ h => h.tail | exact fun _ h => h.tail.tail), ?_⟩; (with_reducible (repeat (first | refine pu_st ?_ | refine bn_st ?_))))
      (refine ⟨fun w H => ?_, trivial⟩; (with_reducible (repeat (first | refine pu_st ?_ | refine bn_st ?_))))
      refine bn_storeN (vs := w8C (fix y.x y.c).1) H Has.n0 rfl (by simp [w8C]) (w8C_one _) fun w H => ?_
      (refine ⟨Sat _ _, Sat _ _, H, fun _ h => h, (by first | trivial | exact fun _ h => h | exact fun _ h => h.tail | exact fun _ h => h.tail.tail), ?_⟩; (with_reducible (repeat (first | refine pu_st ?_ | refine bn_st ?_))))
      (intro w H; (with_reducible (repeat (first | refine pu_st ?_ | refine bn_st ?_))))
      exact ⟨b6, rfl, by rw [hf], by rw [← hf]; exact H⟩
  · intros
    rename_i w hJ
    obtain ⟨b6, rfl, rfl, H⟩ := hJ
    (with_reducible (repeat (first | refine pu_st ?_ | refine bn_st ?_)))
    refine condND (fun he => ?_) (fun he => ?_)
    · refine pu_build0 ?_
      refine bn_storeN (vs := w8C zer) H Has.n1 rfl (by simp [w8C]) (w8C_one _) fun w H => ?_
      refine ⟨_, run_loadN (vs := w8C zer) rfl (H.cells0 Has.n0), ?_, ?_⟩
      · unfold showL; rw [hf, if_neg he]
      · exact H.tail.tail
    · have hsl : SlR c p y.p.length ((y.p.map stC).flatten) := hp.slR
      obtain ⟨a1, cap, rfl, hle, hn, -⟩ := hsl H
      (with_reducible (repeat (first | refine pu_st ?_ | refine bn_st ?_)))
      (refine bn_load1 (hl.pend H) ?_; (with_reducible (repeat (first | refine pu_st ?_ | refine bn_st ?_))))
      refine pu_sliceH (by omega) (by omega) ?_
      (with_reducible (repeat (first | refine pu_st ?_ | refine bn_st ?_)))
      rw [Int.toNat_natCast]
      refine ⟨fun v w => ∃ i : Nat, i ≤ k ∧ v = .int .i64 (i : Int) ∧ Sat c (blk b6 (w8C (showW f.1 (y.p.take i))) 51 :: blk b4 (w8C zer) 51 :: Γ) w, fun v _ => k - (intOf v).toNat, ⟨0, Nat.zero_le _, rfl, by simpa [showW] using H⟩, ?_⟩
      intros
      rename_i w hI
      obtain ⟨i, hi, rfl, H⟩ := hI
      (with_reducible (repeat (first | refine pu_st ?_ | refine bn_st ?_)))
      refine condD (fun hlt => ?_) (fun hlt => ?_)
      · have hlt : i < k := by omega
        obtain ⟨s, hs⟩ : ∃ s, y.p[i]? = some s := ⟨y.p[i]'(by omega), List.getElem?_eq_getElem _⟩
        obtain ⟨hs0, hs1⟩ := hw s (List.mem_of_getElem? hs)
        obtain ⟨a2, cap2, e, -, -, hc⟩ := hsl H
        cases e
        obtain ⟨⟨b1, o1, sp⟩, rfl⟩ : ∃ x, a1 = some x := by
          cases a1 with
          | none => exact absurd (hn rfl) (by omega)
          | some x => exact ⟨x, rfl⟩
        obtain ⟨rfl, hc2⟩ := (hc b1 o1 sp rfl).resolve_left (by omega)
        have hcell : cellsAt w b1 (o1 + i * 2) (stC s) := fun j v hj => by
          rw [Nat.add_assoc]
          exact hc2 _ _ (by rw [rows_cell stC 2 stC_len _ i s hs j (by have := (List.getElem?_eq_some_iff.1 hj).1; rwa [stC_len] at this)]; exact hj)
        refine pu_indexN hlt ?_
        refine bn_loadN hcell rfl ?_
        refine bn_alloc H fun b10 w H => ?_
        refine bn_storeN (vs := stC s) H Has.n0 rfl (by simp [stC]) (stC_one _) fun w H => ?_
        (with_reducible (repeat (first | refine pu_st ?_ | refine bn_st ?_)))
        (refine bn_load1 (Sat.cell H Has.n0 rfl) ?_; (with_reducible (repeat (first | refine pu_st ?_ | refine bn_st ?_))))
        (refine bn_load1 (Sat.cell H Has.n0 rfl) ?_; (with_reducible (repeat (first | refine pu_st ?_ | refine bn_st ?_))))
        refine pu_indexA hs0 (by omega) ?_
        refine bn_store1 H Has.n1 (by simp [w8C]; omega) rfl fun w H => ?_
        refine pu_succ (by omega) ?_
        refine ⟨⟨i + 1, by omega, rfl, ?_⟩, by simp [intOf]; omega⟩
        rw [take_succ_of hs, showW_snoc, ← w8C_set _ _ _ (by omega)]
        have := (H.get (p := blk b10 (wrL [.int .i64 0, .int .i64 0] 0 (stC s)) 80) (.tail .head)).tail
        simpa using this
      · have : i = k := by omega
        subst this
        refine bn_loadN (H.cells0 Has.n0) rfl ?_
        refine bn_storeN (vs := w8C (showW f.1 (y.p.take i))) H Has.n1 rfl (by simp [w8C]) (w8C_one _) fun w H => ?_
        refine ⟨_, run_loadN (vs := w8C (showW f.1 (y.p.take i))) rfl (H.cells0 Has.n0), ?_, ?_⟩
        · unfold showL; rw [hf, if_pos he]
        · exact H.tail.tail

end

end Go.Proofs.YtlolaieolgmdnaaDoor
