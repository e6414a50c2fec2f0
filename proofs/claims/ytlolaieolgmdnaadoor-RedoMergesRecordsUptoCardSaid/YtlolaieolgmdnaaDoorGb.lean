import Derived.Test.YtlolaieolgmdnaaDoorGa
import Derived.Deep.Cut
import Derived.Deep.CutRange
import Derived.Deep.CutBlock

section
namespace Go.Proofs.YtlolaieolgmdnaaDoor
open Go.RowKit Go.Shelf
set_option maxRecDepth 100000
attribute [local go_sem] Oper.semAt_some

set_option maxHeartbeats 400000 in
theorem positions_any (w : World) : Calls Tryd.prog 63 #[] w (RetS (.func (.func 75) #[] #[]) w) := by
  go_enter Tryd.func63, Tryd.ntmps63
  go_wp2
  go_ret
  exact ⟨rfl, rfl⟩

/-- A block of two cells. -/
def Boxed2 (W : World) (B : Nat) (t : TypeId) (v u : Value) : Prop := W.heap[B]? = some (.cells #[v, u] t)
theorem Boxed2.kept {W W' : World} {row : Option Nat} {B : Nat} {t : TypeId} {v u : Value} (h : Boxed2 W B t v u) (hg : W.grownBy W' row) (hne : some B ≠ row) : Boxed2 W' B t v u :=
  (hg.block B (Array.getElem?_eq_some_iff.1 h).1 hne).trans h
theorem Boxed2.new (W : World) (t : TypeId) (v u : Value) : Boxed2 (W.alloc (.cells #[v, u] t)) W.heap.size t v u := World.alloc_heap_new W _
theorem Boxed2.cell0 {W : World} {B : Nat} {t : TypeId} {v u : Value} (h : Boxed2 W B t v u) : W.cell? ⟨B, 0, none⟩ = some v := by simp [World.cell?, show W.heap[B]? = _ from h]
theorem Boxed2.cell1 {W : World} {B : Nat} {t : TypeId} {v u : Value} (h : Boxed2 W B t v u) : W.cell? ⟨B, 1, none⟩ = some u := by simp [World.cell?, show W.heap[B]? = _ from h]
theorem Boxed2.lt {W : World} {B : Nat} {t : TypeId} {v u : Value} (h : Boxed2 W B t v u) : B < W.heap.size := (Array.getElem?_eq_some_iff.1 h).1

/-- A range over a function whose variable lies in a box that each round lays anew. -/
theorem range_box {F : Fence} {n : Nat} {P : Program} {w : World} {α : Type} {g : Operand} {ps : Array Tmp} {assign body : Code} {Q : Exit → Act → World → Prop} {a : Act}
    (hro : F.round = none) (h1 : 1 ≤ n) {gf : Nat} {lb : Array Value} (hg : a.eval g = .func (.func gf) #[] lb) (hFg : F.fn gf) (eg : ∀ args w, (callFunc gf args).run P w = .ok (.enter gf args) w)
    {encs : α → Array Value} {Kp : World → World → Prop} {S Sp : List α → Prop} {N : Nat} {w0 : World} (hseq : SeqStopsK F (n - 1) P gf lb encs Kp S Sp N w0)
    (hKt : ∀ {A B C : World}, Kp A B → Kp B C → Kp A C) (hKb : ∀ (W : World) (l : Nat) (o o' : Obj), w.heap.size ≤ l → W.heap[l]? = some o → o.isCells = false → o.isWalk = false → Kp W (W.putObj l o')) (hb0 : Below w0.heap.size w0 w) (hps : ∀ x, (encs x).size = ps.size)
    (I : List α → World → Prop) (Ix : Code → List α → World → Prop) (hI : OwnFrom w.heap.size I) (hIx : ∀ c, OwnFrom w.heap.size (Ix c)) (h0 : I [] w)
    (G : α → Nat → World → Prop) (hG : ∀ x B, OwnFrom w.heap.size (fun (_ : Unit) W => G x B W)) (upd : Act → α → Nat → Act)
    (hassign : ∀ (l : Nat) (pre : List α) (x : α) (W : World) (K : Act → World → Prop), I pre W → (∀ B W', KeepsFrom w.heap.size W W' → Kp W W' → I pre W' → G x B W' → K (upd a x B) W') →
      assign.wpIn (F.inRound l) (n - 1 - 1) P (Exit.then K (fun _ _ _ => False)) { tmps := (ps.zip (encs x)).foldl (fun t (p, v) => t.setIfInBounds p v) a.tmps, defers := [] } W)
    (hbody : ∀ (l : Nat) (pre : List α) (x : α) (B : Nat) (W : World), I pre W → G x B W → pre.length < N → body.wpIn (F.inRound l) (n - 1 - 1) P (ownPostG w.heap.size Kp I Ix (pre ++ [x]) W) (upd a x B) W)
    (hdone : ∀ (D : Nat) (xs : List α) (W : World), w.heap.size ≤ D → S xs → I xs W → W.heap[D]? = some (.deferred (some [])) → Q .normal { a with defers := { target := .collected D, args := #[] } :: a.defers } W)
    (hstop : ∀ (D : Nat) (c : Code) (pre : List α) (W : World), w.heap.size ≤ D → Sp pre → Ix c pre W → W.heap[D]? = some (.deferred (some [])) → c.wpIn F n P Q { a with defers := { target := .collected D, args := #[] } :: a.defers } W) :
    (Code.rangeFunc g ps assign body).wpIn F n P Q a w :=
  wpIn_rangeFunc_ownH hro h1 hg hFg eg hseq hKt hKb hb0 hps I Ix hI hIx h0 (fun x a' W => ∃ B, G x B W ∧ a' = upd a x B)
    (fun x a' s X Y row hs hg hr => by obtain ⟨B, h2, h3⟩ := hs; exact ⟨B, hG x B () X Y row h2 hg hr, h3⟩)
    (fun l pre x W K hi hK => hassign l pre x W K hi fun B W' hk hkp hi' hg' => hK _ _ hk hkp hi' ⟨B, hg', rfl⟩)
    (fun l pre x a' W _ _ hi ⟨B, hg', he⟩ hlen => by subst he; exact hbody l pre x B W hi hg' hlen)
    hdone hstop

theorem boxed2_own (x : Value) (y : Value) (t : TypeId) (B : Nat) (C : Nat) : OwnFrom C (fun (_ : Unit) W => Boxed2 W B t x y) := fun s X Y row hs hg hrow =>
  hs.kept hg (fun e' => by obtain ⟨_, o, ho, hc⟩ := hrow B e'.symm; rw [show X.heap[B]? = _ from hs] at ho; cases ho; cases hc)

/-- What lies in Check's variables between two rounds. -/
structure Mid (w : World) (B0 n s4 s : Nat) (x y z : Int) (W : World) : Prop where
  r4 : Boxed W (n + 1) 3 (.int .i64 x)
  r5 : Boxed W (n + 1 + 1) 3 (.int .i64 y)
  r6 : Boxed W (n + 1 + 1 + 1) 3 (.int .i64 z)
  rs : Boxed W s4 3 (.int .i64 s)
  bel : Below w.heap.size w W
  size : B0 ≤ W.heap.size

theorem Mid.own {w : World} {B0 n s4 s : Nat} {x y z : Int} {B : Nat} (hB : w.heap.size ≤ B) : OwnFrom B (fun (_ : List Nat) W => Mid w B0 n s4 s x y z W) := fun _ X Y row h hg hr =>
  ⟨(boxed_own _ _ (fun (_ : Unit) => Value.int .i64 x)).from B () X Y row h.r4 hg hr, (boxed_own _ _ (fun (_ : Unit) => Value.int .i64 y)).from B () X Y row h.r5 hg hr, (boxed_own _ _ (fun (_ : Unit) => Value.int .i64 z)).from B () X Y row h.r6 hg hr,
    (boxed_own _ _ (fun (_ : Unit) => Value.int .i64 s)).from B () X Y row h.rs hg hr, ownFrom_below (β := Unit) (Nat.le_refl _) hB () X Y row h.bel hg hr, Nat.le_trans h.size hg.size⟩

theorem Mid.alloc {w : World} {B0 n s4 s : Nat} {x y z : Int} {W : World} (h : Mid w B0 n s4 s x y z W) (o : Obj) : Mid w B0 n s4 s x y z (W.alloc o) :=
  ⟨h.r4.alloc _, h.r5.alloc _, h.r6.alloc _, h.rs.alloc _, h.bel.alloc h.bel.size _, by have := h.size; simp; omega⟩
theorem Mid.sets {w : World} {B0 s4 s : Nat} {x y z : Int} {W : World} (h : Mid w B0 w.heap.size s4 s x y z W) (h4 : w.heap.size + 1 + 1 + 1 < s4) (x' y' z' : Int) :
    Mid w B0 w.heap.size s4 s x' y' z' (((W.setCell ⟨w.heap.size + 1, 0, none⟩ (.int .i64 x')).setCell ⟨w.heap.size + 1 + 1, 0, none⟩ (.int .i64 y')).setCell ⟨w.heap.size + 1 + 1 + 1, 0, none⟩ (.int .i64 z')) :=
  ⟨((h.r4.set _).other (by omega) _).other (by omega) _, ((h.r5.other (by omega) _).set _).other (by omega) _, ((h.r6.other (by omega) _).other (by omega) _).set _,
    ((h.rs.other (by omega) _).other (by omega) _).other (by omega) _, ((h.bel.setCell (Nat.le_succ _) _).setCell (by simp; omega) _).setCell (by simp; omega) _,
    by have := h.size; simpa using this⟩
theorem Mid.put {w : World} {B0 n s4 s : Nat} {x y z : Int} {W : World} (h : Mid w B0 n s4 s x y z W) {D : Nat} {o o' : Obj} (hK : W.heap[D]? = some o) (hD : w.heap.size ≤ D) (ho : o.isCells = false := by rfl) : Mid w B0 n s4 s x y z (W.putObj D o') :=
  Mid.own (Nat.le_refl _) [] W _ (some D) h (grownBy_putObj' W D o') (fun r e => by cases e; exact ⟨hD, o, hK, ho⟩)
theorem Mid.drew {w : World} {B0 n s4 s : Nat} {x y z : Int} {W : World} (h : Mid w B0 n s4 s x y z W) : Mid w B0 n s4 s x y z W.drew := ⟨h.r4, h.r5, h.r6, h.rs, h.bel.drew, h.size⟩

/-- What the search finds. -/
def fnd (s : Nat) : Int × Int × Int := match findP s with
  | some i => (1, ((i / 40 : Nat) : Int), ((i % 40 : Nat) : Int))
  | none => (2, 0, 0)

set_option maxRecDepth 100000 in
set_option maxHeartbeats 2000000 in
/-- Check at a valid line, where the search is needed. -/
theorem check_find (l : W8) (n : Nat) (w : World) (hv : validB l n = true) (hT : TabIn w) (ho : oddC l n = true) (h0 : synC l n ≠ 0) (hpw : synC l n &&& (synC l n - 1) ≠ 0) :
    Calls Tryd.prog 47 #[(.agg #[.int .i64 l.a0, .int .i64 l.a1, .int .i64 l.a2, .int .i64 l.a3, .int .i64 l.a4, .int .i64 l.a5, .int .i64 l.a6, .int .i64 l.a7]), .int .i64 n] w (RetB (.tuple #[.int .i64 (fnd (synC l n)).1, .int .i64 (fnd (synC l n)).2.1, .int .i64 (fnd (synC l n)).2.2]) w) := by
  have hn : n < 1024 := by have := (validB_iff.1 hv).2; omega
  have hval := fun W => valid_l l n W
  have hv0 : validB l 0 = true := validB_yes (validB_iff.1 hv).1 (by omega) (by omega)
  have hsum := fun W hT => sum_l l W hv0 hT
  have Hn := Lib.hid (Chk.new w l)
  have hbel := Chk.bel w l
  rw [hv] at hval
  clear hv hv0
  have hones := fun W => ones_any n (by omega) W
  have hs512 := syn_lt l
  have hc320 := cnt_le l
  have hp := pop_le 40 n
  have hand := code_and n hn
  have hxor := synC_xor l n
  have hx512 := synC_lt l n
  have hodd := oddC_is l n
  rw [ho] at hodd
  clear ho
  have HT := Lib.hid hT
  have Hsum := Lib.hid hsum
  clear hT hsum
  generalize synC l n = s at *
  have hs0 : ((s : Int) == 0) = false := by rw [beq_eq_false_iff_ne]; omega
  have hpa := and_i64 s (s - 1) (by omega) (by omega)
  rw [show ((s - 1 : Nat) : Int) = (s : Int) - 1 from by omega] at hpa
  have hp0 : (((s &&& (s - 1) : Nat) : Int) == 0) = false := by rw [beq_eq_false_iff_ne]; omega
  generalize s &&& (s - 1) = z at *
  refine (callsIn_wide (n := 5)).1 ?_
  refine callsIn_of_wp_marks Tryd.func47 rfl trivial ?_ rfl
  simp only [Tryd.ntmps47, List.size_toArray, List.length_cons, List.length_nil, Nat.reduceAdd, Nat.reduceSub, Array.replicate_succ, Array.replicate_zero, List.push_toArray, List.append_toArray, List.nil_append, List.cons_append]
  gi_wp2_with fail
  generalize (((w.alloc (.cells #[.int .i64 l.a0, .int .i64 l.a1, .int .i64 l.a2, .int .i64 l.a3, .int .i64 l.a4, .int .i64 l.a5, .int .i64 l.a6, .int .i64 l.a7] 51)).alloc (.cells #[.int .i64 0] 3)).alloc (.cells #[.int .i64 0] 3)).alloc (.cells #[.int .i64 0] 3) = W at *
  refine ⟨trivial, (callsIn_wide.2 (hval _)).mono ?_⟩
  rintro e w1 ⟨rfl, hb1⟩
  have H1 := Lib.hid (Hn.out.under hb1)
  have hbel1 := hbel.trans (hb1.mono hbel.size)
  clear hb1
  obtain ⟨c0, c1, c2, c3, c4, c5, c6, c7⟩ := H1.out.box.all
  have hblt := H1.out.box.lt
  gi_wp2_with fail
  refine ⟨trivial, (callsIn_wide.2 (Hsum.out _ (HT.out.below hbel1))).mono ?_⟩
  rintro e w2 ⟨rfl, hb2⟩
  have H2 := Lib.hid (H1.out.under hb2)
  have hbel2 := hbel1.trans (hb2.mono hbel1.size)
  clear hb2 c0 c1 c2 c3 c4 c5 c6 c7 hblt
  have l4 := H2.out.r4.lt
  have l5 := H2.out.r5.lt
  have l6 := H2.out.r6.lt
  gi_wp2_with fail
  refine ⟨trivial, (callsIn_wide.2 (hones _)).mono ?_⟩
  rintro e w' ⟨rfl, rfl⟩
  gi_wp2_with fail
  have Hm : Hid (Mid w (w2.alloc (.cells #[.int .i64 s] 3)).heap.size w.heap.size w2.heap.size s 0 0 0 (w2.alloc (.cells #[.int .i64 s] 3))) := Lib.hid ⟨H2.out.r4.alloc _, H2.out.r5.alloc _, H2.out.r6.alloc _, Boxed.new _ _ _, hbel2.alloc hbel2.size _, Nat.le_refl _⟩
  have hs4 : w2.heap.size < (w2.alloc (.cells #[.int .i64 s] 3)).heap.size := by simp
  generalize w2.alloc (.cells #[.int .i64 s] 3) = W0 at *
  generalize w2.heap.size = s4 at *
  refine ⟨trivial, (callsIn_wide.2 (positions_any _)).mono ?_⟩
  rintro e w' ⟨rfl, rfl⟩
  gi_wp2_with fail
  have hbW := Hm.out.bel.size
  refine range_box rfl (by decide) (gf := 75) (lb := #[]) rfl trivial (enters_of Tryd.func75 (by kernel_rfl) rfl) (posns_stops Fence.wide _ trivial rfl (by decide) W0) belowK_t (belowK_b (Nat.le_refl _)) (Below.refl _ _) (fun _ => rfl)
    (fun pre W => (∀ x, x ∈ pre → posn x ≠ s) ∧ Mid w W0.heap.size w.heap.size s4 s 0 0 0 W)
    (fun c pre W => (c = .ret ∧ ∃ i, i ∈ pre ∧ posn i = s ∧ Mid w W0.heap.size w.heap.size s4 s 1 ((i : Int) / 40) ((i : Int) % 40) W))
    (OwnFrom.and (ownFrom_pure _ _) (Mid.own hbW))
    (fun c u X Y row hs hg hr => by obtain ⟨hc, i, hi, hp, hm⟩ := hs; exact ⟨hc, i, hi, hp, Mid.own hbW [] X Y row hm hg hr⟩)
    ⟨fun x h => (by cases h), Hm.out⟩
    (fun i B W => W0.heap.size ≤ B ∧ Boxed2 W B 118 (.int .i64 ((i : Int) / 40)) (.int .i64 ((i : Int) % 40)))
    (fun x B u X Y row hs hg hr => ⟨hs.1, boxed2_own _ _ _ _ _ u X Y row hs.2 hg hr⟩)
    (fun a i B => { tmps := (((a.tmps.setIfInBounds 55 (.agg #[.int .i64 ((i : Int) / 40), .int .i64 ((i : Int) % 40)])).setIfInBounds 56 (.int .i64 (posn i : Nat))).setIfInBounds 10 (.pointer (some ⟨B, 0, none⟩))).setIfInBounds 11 (.int .i64 (posn i : Nat)), defers := [] })
    ?assign ?body ?done ?stop
  case assign =>
    rintro l pre x W K ⟨hpre, hm⟩ hK
    gi_wp2
    exact hK W.heap.size _ ((KeepsOthers.alloc _ _).from _) ((Below.refl _ W).alloc hm.size _) ⟨hpre, hm.alloc _⟩ ⟨hm.size, Boxed2.new _ _ _ _⟩
  case body =>
    rintro lp pre x B W ⟨hpre, hm⟩ ⟨hB, hbx⟩ _
    have c4 := hm.r4.cell
    have c5 := hm.r5.cell
    have c6 := hm.r6.cell
    have f4 := hm.r4.frozen
    have f5 := hm.r5.frozen
    have f6 := hm.r6.frozen
    have cs4 := hm.rs.cell
    have p0 := hbx.cell0
    have p1 := hbx.cell1
    have Hpre : Hid (∀ x, x ∈ pre → posn x ≠ s) := hpre
    clear hpre
    by_cases hps : posn x = s
    · have Hps := Lib.hid hps
      have hpb : (((posn x : Nat) : Int) == (s : Int)) = true := by rw [beq_iff_eq]; omega
      clear hps
      simp only [List.setIfInBounds_toArray, List.set_cons_succ, List.set_cons_zero]
      have hmix : Tryd.prog.follows .mixedOrders = true := by kernel_rfl
      have hs := hm.sets l6 1 ((x : Int) / 40) ((x : Int) % 40)
      gi_wp2
      gi_region_with_o (fail)
      all_goals gi_wp2
      all_goals exact ⟨((((KeepsOthers.setCell _ _ _).trans (KeepsOthers.setCell _ _ _)).trans (KeepsOthers.setCell _ _ _)).trans (KeepsOthers.drew _)).from _, rfl, x, List.mem_append_right _ (List.mem_singleton_self x), Hps.out, hs.drew⟩
    · have hpb : (((posn x : Nat) : Int) == (s : Int)) = false := by rw [beq_eq_false_iff_ne]; omega
      have Hps := Lib.hid hps
      clear hps
      simp only [List.setIfInBounds_toArray, List.set_cons_succ, List.set_cons_zero]
      gi_wp2
      exact ⟨KeepsFrom.refl _ _, Below.refl _ _, fun y hy => by
        rcases List.mem_append.1 hy with h | h
        · exact Hpre.out y h
        · rw [List.mem_singleton] at h; subst h; exact Hps.out, hm⟩
  case done =>
    rintro D xs W hD rfl ⟨hpre, hm⟩ hK
    have c4 := hm.r4.cell
    have c5 := hm.r5.cell
    have c6 := hm.r6.cell
    have f4 := hm.r4.frozen
    have f5 := hm.r5.frozen
    have f6 := hm.r6.frozen
    have Hpre : Hid (∀ x, x ∈ List.range 320 → posn x ≠ s) := hpre
    clear hpre
    have hs := hm.sets l6 2 0 0
    have hK2 := (((KeepsOthers.setCell W ⟨w.heap.size + 1, 0, none⟩ (.int .i64 2)).trans (KeepsOthers.setCell _ ⟨w.heap.size + 1 + 1, 0, none⟩ (.int .i64 0))).trans (KeepsOthers.setCell _ ⟨w.heap.size + 1 + 1 + 1, 0, none⟩ (.int .i64 0))).same D _ hK rfl
    gi_wp2
    generalize ((W.setCell ⟨w.heap.size + 1, 0, none⟩ (.int .i64 2)).setCell ⟨w.heap.size + 1 + 1, 0, none⟩ (.int .i64 0)).setCell ⟨w.heap.size + 1 + 1 + 1, 0, none⟩ (.int .i64 0) = W9 at *
    refine ⟨by simp, .inl ⟨_, _, rfl, run_takeDeferred hK2, ?_⟩⟩
    have hp := hs.put (o' := .deferred none) hK2 (by omega)
    have d4 := hp.r4.cell
    have d5 := hp.r5.cell
    have d6 := hp.r6.cell
    have hf : fnd s = (2, 0, 0) := by
      unfold fnd
      rw [findP_none fun i hi => Hpre.out i (List.mem_range.2 hi)]
    refine ⟨.tuple #[.int .i64 2, .int .i64 0, .int .i64 0], ?_, ?_⟩
    · simp [results, Tryd.results47, go_sem, d4, d5, d6]
    · rw [hf]; exact ⟨rfl, hp.bel⟩
  case stop =>
    rintro D c pre W hD ⟨m, hm, rfl⟩ ⟨rfl, i, hi, hpi, hmid⟩ hK
    gi_wp2
    refine ⟨by simp, .inl ⟨_, _, rfl, run_takeDeferred hK, ?_⟩⟩
    have hp := hmid.put (o' := .deferred none) hK (by omega)
    have d4 := hp.r4.cell
    have d5 := hp.r5.cell
    have d6 := hp.r6.cell
    have hf : fnd s = (1, ((i / 40 : Nat) : Int), ((i % 40 : Nat) : Int)) := by
      unfold fnd
      rw [findP_some (by have := List.mem_range.1 hi; omega) hpi]
    refine ⟨.tuple #[.int .i64 1, .int .i64 ((i : Int) / 40), .int .i64 ((i : Int) % 40)], ?_, ?_⟩
    · simp [results, Tryd.results47, go_sem, d4, d5, d6]
    · rw [hf]; exact ⟨by simp, hp.bel⟩

end Go.Proofs.YtlolaieolgmdnaaDoor
end

section
namespace Go.Proofs.YtlolaieolgmdnaaDoor
open Go.RowKit

theorem validB_nat {l : W8} {c : Int} (h : validB l c = true) : ∃ n : Nat, c = n ∧ n < 1024 := by
  have := (validB_iff.1 h).2
  exact ⟨c.toNat, by omega, by omega⟩

theorem fnd_eq (l : W8) (n : Nat) (hv : validB l n = true) (ho : oddC l n = true) (h0 : synC l n ≠ 0) (hpw : synC l n &&& (synC l n - 1) ≠ 0) : chk l n = fnd (synC l n) := by
  unfold chk fnd
  rw [if_pos hv, ho, if_pos rfl, if_neg h0, if_neg hpw]
  cases findP (synC l n) <;> rfl

/-- Check, at every line and code. -/
theorem Check_any (l : W8) (c : Int) (w : World) (hT : TabIn w) :
    Calls Tryd.prog 47 #[(.agg #[.int .i64 l.a0, .int .i64 l.a1, .int .i64 l.a2, .int .i64 l.a3, .int .i64 l.a4, .int .i64 l.a5, .int .i64 l.a6, .int .i64 l.a7]), .int .i64 c] w (RetB (.tuple #[.int .i64 (chk l c).1, .int .i64 (chk l c).2.1, .int .i64 (chk l c).2.2]) w) := by
  cases hv : validB l c with
  | false =>
    have e : chk l c = (2, 0, 0) := by unfold chk; rw [hv]; rfl
    rw [e]; exact check_no l c w hv
  | true =>
    obtain ⟨n, rfl, hn⟩ := validB_nat hv
    cases ho : oddC l n with
    | false =>
      by_cases h0 : synC l n = 0
      · have e : chk l n = (0, 0, 0) := by unfold chk; rw [if_pos hv, ho, if_neg (by simp), if_pos h0]
        rw [e]; exact check_even0 l n w hv hT ho h0
      · have e : chk l n = (2, 0, 0) := by unfold chk; rw [if_pos hv, ho, if_neg (by simp), if_neg h0]
        rw [e]; exact check_evenN l n w hv hT ho h0
    | true =>
      by_cases h0 : synC l n = 0
      · have e : chk l n = (1, 8, 9) := by unfold chk; rw [if_pos hv, ho, if_pos rfl, if_pos h0]
        rw [e]; exact check_odd0 l n w hv hT ho h0
      · by_cases hpw : synC l n &&& (synC l n - 1) = 0
        · have e : chk l n = (1, 8, ((Lib.ctz 64 (synC l n) : Nat) : Int)) := by unfold chk; rw [if_pos hv, ho, if_pos rfl, if_neg h0, if_pos hpw]
          rw [e]; exact check_oddp l n w hv hT ho h0 hpw
        · rw [fnd_eq l n hv ho h0 hpw]; exact check_find l n w hv hT ho h0 hpw

end Go.Proofs.YtlolaieolgmdnaaDoor
end

section
namespace Go.Proofs.YtlolaieolgmdnaaDoor
open Go.RowKit

theorem pow_tab : ∀ s : Fin 512, s.val ≠ 0 → (s.val &&& (s.val - 1) = 0 → s.val = 2 ^ Lib.ctz 64 s.val ∧ Lib.ctz 64 s.val < 9) := by decide +kernel
theorem pow_two : ∀ j : Fin 9, (2 ^ j.val &&& (2 ^ j.val - 1) = 0) ∧ Lib.ctz 64 (2 ^ j.val) = j.val ∧ 2 ^ j.val < 512 := by decide +kernel

theorem chk_pow (l : W8) (n : Nat) (hv : validB l n = true) (ho : oddC l n = true) (j : Nat) (hj : j < 9) (hs : synC l n = 2 ^ j) : chk l n = (1, 8, ((j : Nat) : Int)) := by
  obtain ⟨h1, h2, _⟩ := pow_two ⟨j, hj⟩
  simp only at h1 h2
  have h0 : (2 : Nat) ^ j ≠ 0 := by have := Nat.two_pow_pos j; omega
  unfold chk
  rw [if_pos hv, ho, if_pos rfl, hs, if_neg h0, if_pos h1, h2]
theorem not_pow (s : Nat) (hs : s < 512) (h0 : s ≠ 0) (h : ∀ k, k < 9 → s ≠ 2 ^ k) : s &&& (s - 1) ≠ 0 := by
  intro hp
  obtain ⟨h1, h2⟩ := pow_tab ⟨s, hs⟩ h0 hp
  exact h _ h2 h1
theorem chk_some (l : W8) (n : Nat) (hv : validB l n = true) (ho : oddC l n = true) (h0 : synC l n ≠ 0) (h : ∀ k, k < 9 → synC l n ≠ 2 ^ k) (i : Nat) (hi : i < 320) (hp : posn i = synC l n) :
    chk l n = (1, (i : Int) / 40, (i : Int) % 40) := by
  rw [fnd_eq l n hv ho h0 (not_pow _ (synC_lt l n) h0 h)]
  unfold fnd; rw [findP_some hi hp]; simp
theorem chk_none (l : W8) (n : Nat) (hv : validB l n = true) (ho : oddC l n = true) (h0 : synC l n ≠ 0) (h : ∀ k, k < 9 → synC l n ≠ 2 ^ k) (hp : ∀ i, i < 320 → posn i ≠ synC l n) :
    chk l n = (2, 0, 0) := by
  rw [fnd_eq l n hv ho h0 (not_pow _ (synC_lt l n) h0 h)]
  unfold fnd; rw [findP_none hp]

end Go.Proofs.YtlolaieolgmdnaaDoor
end

section
namespace Go.Proofs.YtlolaieolgmdnaaDoor
open Go.RowKit
set_option maxRecDepth 100000

def zer : W8 := ⟨0, 0, 0, 0, 0, 0, 0, 0⟩
theorem Flip_l (l : W8) (c a b : Int) (w : World) : Calls Tryd.prog 69 #[(.agg #[.int .i64 l.a0, .int .i64 l.a1, .int .i64 l.a2, .int .i64 l.a3, .int .i64 l.a4, .int .i64 l.a5, .int .i64 l.a6, .int .i64 l.a7]), .int .i64 c, .int .i64 a, .int .i64 b] w (RetB (.tuple #[arrOf (flpL l a b), .int .i64 (flpC c a b)]) w) := Flip_any l.a0 l.a1 l.a2 l.a3 l.a4 l.a5 l.a6 l.a7 c a b w

/-- What Fix answers: the line, the code, the error. -/
def fix (l : W8) (c : Int) : W8 × Int × Int :=
  if validB l c then
    (if (chk l c).1 = 2 then (zer, 0, 9)
     else if (chk l c).1 = 1 then (flpL l (chk l c).2.1 (chk l c).2.2, flpC c (chk l c).2.1 (chk l c).2.2, 0)
     else (l, c, 0))
  else (zer, 0, 1)

theorem BoxL.store8_other {W : World} {b d : Nat} {z : W8} (h : BoxL W b z) (hd : d ≠ b) (v0 v1 v2 v3 v4 v5 v6 v7 : Value) : BoxL ((((((((W.setCell ⟨d, 0, none⟩ v0).setCell ⟨d, 1, none⟩ v1).setCell ⟨d, 2, none⟩ v2).setCell ⟨d, 3, none⟩ v3).setCell ⟨d, 4, none⟩ v4).setCell ⟨d, 5, none⟩ v5).setCell ⟨d, 6, none⟩ v6).setCell ⟨d, 7, none⟩ v7) b z :=
  (((((((h.setOther hd _ _).setOther hd _ _).setOther hd _ _).setOther hd _ _).setOther hd _ _).setOther hd _ _).setOther hd _ _).setOther hd _ _

set_option maxHeartbeats 1000000 in
/-- Fix, where the line is not valid. -/
theorem fix_no (l : W8) (c : Int) (w : World) (hv : validB l c = false) :
    Calls Tryd.prog 57 #[(.agg #[.int .i64 l.a0, .int .i64 l.a1, .int .i64 l.a2, .int .i64 l.a3, .int .i64 l.a4, .int .i64 l.a5, .int .i64 l.a6, .int .i64 l.a7]), .int .i64 c] w (RetB (.tuple #[arrOf zer, .int .i64 0, .int .i64 1]) w) := by
  have hval := fun W => valid_l l c W
  rw [hv] at hval
  clear hv
  have Hl := Lib.hid ((BoxL.new w l.a0 l.a1 l.a2 l.a3 l.a4 l.a5 l.a6 l.a7).alloc (.cells #[.int .i64 0, .int .i64 0, .int .i64 0, .int .i64 0, .int .i64 0, .int .i64 0, .int .i64 0, .int .i64 0] 51))
  have Hz : Hid (BoxL ((w.alloc (.cells #[.int .i64 l.a0, .int .i64 l.a1, .int .i64 l.a2, .int .i64 l.a3, .int .i64 l.a4, .int .i64 l.a5, .int .i64 l.a6, .int .i64 l.a7] 51)).alloc (.cells #[.int .i64 0, .int .i64 0, .int .i64 0, .int .i64 0, .int .i64 0, .int .i64 0, .int .i64 0, .int .i64 0] 51)) (w.heap.size + 1) zer) := Lib.hid (by have := BoxL.new (w.alloc (.cells #[.int .i64 l.a0, .int .i64 l.a1, .int .i64 l.a2, .int .i64 l.a3, .int .i64 l.a4, .int .i64 l.a5, .int .i64 l.a6, .int .i64 l.a7] 51)) 0 0 0 0 0 0 0 0; simpa [zer] using this)
  have hbel := ((Below.refl w.heap.size w).alloc (Nat.le_refl _) (.cells #[.int .i64 l.a0, .int .i64 l.a1, .int .i64 l.a2, .int .i64 l.a3, .int .i64 l.a4, .int .i64 l.a5, .int .i64 l.a6, .int .i64 l.a7] 51)).alloc (by simp) (.cells #[.int .i64 0, .int .i64 0, .int .i64 0, .int .i64 0, .int .i64 0, .int .i64 0, .int .i64 0, .int .i64 0] 51)
  go_enter Tryd.func57, Tryd.ntmps57
  go_wp2_with fail
  generalize (w.alloc (.cells #[.int .i64 l.a0, .int .i64 l.a1, .int .i64 l.a2, .int .i64 l.a3, .int .i64 l.a4, .int .i64 l.a5, .int .i64 l.a6, .int .i64 l.a7] 51)).alloc (.cells #[.int .i64 0, .int .i64 0, .int .i64 0, .int .i64 0, .int .i64 0, .int .i64 0, .int .i64 0, .int .i64 0] 51) = W at *
  refine (hval _).mono ?_
  rintro e w1 ⟨rfl, hb1⟩
  have H1 := Lib.hid (Hl.out.below hb1)
  have Z1 := Lib.hid (Hz.out.below hb1)
  have hbel1 := hbel.trans (hb1.mono hbel.size)
  clear hb1
  have Hr : Hid (BoxL ((((((((w1.setCell ⟨w.heap.size + 1, 0, none⟩ (.int .i64 0)).setCell ⟨w.heap.size + 1, 1, none⟩ (.int .i64 0)).setCell ⟨w.heap.size + 1, 2, none⟩ (.int .i64 0)).setCell ⟨w.heap.size + 1, 3, none⟩ (.int .i64 0)).setCell ⟨w.heap.size + 1, 4, none⟩ (.int .i64 0)).setCell ⟨w.heap.size + 1, 5, none⟩ (.int .i64 0)).setCell ⟨w.heap.size + 1, 6, none⟩ (.int .i64 0)).setCell ⟨w.heap.size + 1, 7, none⟩ (.int .i64 0)) (w.heap.size + 1) zer) := Lib.hid (Z1.out.store8 zer)
  have hbel9 : Below w.heap.size w ((((((((w1.setCell ⟨w.heap.size + 1, 0, none⟩ (.int .i64 0)).setCell ⟨w.heap.size + 1, 1, none⟩ (.int .i64 0)).setCell ⟨w.heap.size + 1, 2, none⟩ (.int .i64 0)).setCell ⟨w.heap.size + 1, 3, none⟩ (.int .i64 0)).setCell ⟨w.heap.size + 1, 4, none⟩ (.int .i64 0)).setCell ⟨w.heap.size + 1, 5, none⟩ (.int .i64 0)).setCell ⟨w.heap.size + 1, 6, none⟩ (.int .i64 0)).setCell ⟨w.heap.size + 1, 7, none⟩ (.int .i64 0)) := below_store8 hbel1 (Nat.le_succ _) _ _ _ _ _ _ _ _
  obtain ⟨z0, z1, z2, z3, z4, z5, z6, z7⟩ := Z1.out.all
  have zf := Z1.out.free
  simp only [zer] at z0 z1 z2 z3 z4 z5 z6 z7
  go_wp2
  generalize ((((((((w1.setCell ⟨w.heap.size + 1, 0, none⟩ (.int .i64 0)).setCell ⟨w.heap.size + 1, 1, none⟩ (.int .i64 0)).setCell ⟨w.heap.size + 1, 2, none⟩ (.int .i64 0)).setCell ⟨w.heap.size + 1, 3, none⟩ (.int .i64 0)).setCell ⟨w.heap.size + 1, 4, none⟩ (.int .i64 0)).setCell ⟨w.heap.size + 1, 5, none⟩ (.int .i64 0)).setCell ⟨w.heap.size + 1, 6, none⟩ (.int .i64 0)).setCell ⟨w.heap.size + 1, 7, none⟩ (.int .i64 0)) = W9 at *
  have d9 := Hr.out.all
  obtain ⟨d0, d1, d2, d3, d4, d5, d6, d7⟩ := d9
  exact bodyPost_ret (v := .tuple #[arrOf zer, .int .i64 (0), .int .i64 1]) (by simp [results, Tryd.results57, go_sem, d0, d1, d2, d3, d4, d5, d6, d7, arrOf]) rfl ⟨rfl, hbel9⟩

set_option maxHeartbeats 1000000 in
/-- Fix, where the line is rotten. -/
theorem fix_rot (l : W8) (c : Int) (w : World) (hv : validB l c = true) (hT : TabIn w) (hr : (chk l c).1 = 2) :
    Calls Tryd.prog 57 #[(.agg #[.int .i64 l.a0, .int .i64 l.a1, .int .i64 l.a2, .int .i64 l.a3, .int .i64 l.a4, .int .i64 l.a5, .int .i64 l.a6, .int .i64 l.a7]), .int .i64 c] w (RetB (.tuple #[arrOf zer, .int .i64 0, .int .i64 9]) w) := by
  have hval := fun W => valid_l l c W
  have hchk := fun W hT => Check_any l c W hT
  rw [hv] at hval
  clear hv
  have HT := Lib.hid hT
  have Hchk := Lib.hid hchk
  clear hT hchk
  generalize chk l c = r at *
  obtain ⟨r0, r1, r2⟩ := r
  simp only at hr Hchk
  subst hr
  have Hl := Lib.hid ((BoxL.new w l.a0 l.a1 l.a2 l.a3 l.a4 l.a5 l.a6 l.a7).alloc (.cells #[.int .i64 0, .int .i64 0, .int .i64 0, .int .i64 0, .int .i64 0, .int .i64 0, .int .i64 0, .int .i64 0] 51))
  have Hz : Hid (BoxL ((w.alloc (.cells #[.int .i64 l.a0, .int .i64 l.a1, .int .i64 l.a2, .int .i64 l.a3, .int .i64 l.a4, .int .i64 l.a5, .int .i64 l.a6, .int .i64 l.a7] 51)).alloc (.cells #[.int .i64 0, .int .i64 0, .int .i64 0, .int .i64 0, .int .i64 0, .int .i64 0, .int .i64 0, .int .i64 0] 51)) (w.heap.size + 1) zer) := Lib.hid (by have := BoxL.new (w.alloc (.cells #[.int .i64 l.a0, .int .i64 l.a1, .int .i64 l.a2, .int .i64 l.a3, .int .i64 l.a4, .int .i64 l.a5, .int .i64 l.a6, .int .i64 l.a7] 51)) 0 0 0 0 0 0 0 0; simpa [zer] using this)
  have hbel := ((Below.refl w.heap.size w).alloc (Nat.le_refl _) (.cells #[.int .i64 l.a0, .int .i64 l.a1, .int .i64 l.a2, .int .i64 l.a3, .int .i64 l.a4, .int .i64 l.a5, .int .i64 l.a6, .int .i64 l.a7] 51)).alloc (by simp) (.cells #[.int .i64 0, .int .i64 0, .int .i64 0, .int .i64 0, .int .i64 0, .int .i64 0, .int .i64 0, .int .i64 0] 51)
  go_enter Tryd.func57, Tryd.ntmps57
  go_wp2_with fail
  generalize (w.alloc (.cells #[.int .i64 l.a0, .int .i64 l.a1, .int .i64 l.a2, .int .i64 l.a3, .int .i64 l.a4, .int .i64 l.a5, .int .i64 l.a6, .int .i64 l.a7] 51)).alloc (.cells #[.int .i64 0, .int .i64 0, .int .i64 0, .int .i64 0, .int .i64 0, .int .i64 0, .int .i64 0, .int .i64 0] 51) = W at *
  refine (hval _).mono ?_
  rintro e w1 ⟨rfl, hb1⟩
  have H1 := Lib.hid (Hl.out.below hb1)
  have Z1 := Lib.hid (Hz.out.below hb1)
  have hbel1 := hbel.trans (hb1.mono hbel.size)
  clear hb1
  obtain ⟨c0, c1, c2, c3, c4, c5, c6, c7⟩ := H1.out.all
  go_wp2_with fail
  refine (Hchk.out _ (HT.out.below hbel1)).mono ?_
  rintro e w2 ⟨rfl, hb2⟩
  have H2 := Lib.hid (H1.out.below hb2)
  have Z2 := Lib.hid (Z1.out.below hb2)
  have hbel2 := hbel1.trans (hb2.mono hbel1.size)
  clear hb2 c0 c1 c2 c3 c4 c5 c6 c7
  have Hr : Hid (BoxL ((((((((w2.setCell ⟨w.heap.size + 1, 0, none⟩ (.int .i64 0)).setCell ⟨w.heap.size + 1, 1, none⟩ (.int .i64 0)).setCell ⟨w.heap.size + 1, 2, none⟩ (.int .i64 0)).setCell ⟨w.heap.size + 1, 3, none⟩ (.int .i64 0)).setCell ⟨w.heap.size + 1, 4, none⟩ (.int .i64 0)).setCell ⟨w.heap.size + 1, 5, none⟩ (.int .i64 0)).setCell ⟨w.heap.size + 1, 6, none⟩ (.int .i64 0)).setCell ⟨w.heap.size + 1, 7, none⟩ (.int .i64 0)) (w.heap.size + 1) zer) := Lib.hid (Z2.out.store8 zer)
  have hbel9 : Below w.heap.size w ((((((((w2.setCell ⟨w.heap.size + 1, 0, none⟩ (.int .i64 0)).setCell ⟨w.heap.size + 1, 1, none⟩ (.int .i64 0)).setCell ⟨w.heap.size + 1, 2, none⟩ (.int .i64 0)).setCell ⟨w.heap.size + 1, 3, none⟩ (.int .i64 0)).setCell ⟨w.heap.size + 1, 4, none⟩ (.int .i64 0)).setCell ⟨w.heap.size + 1, 5, none⟩ (.int .i64 0)).setCell ⟨w.heap.size + 1, 6, none⟩ (.int .i64 0)).setCell ⟨w.heap.size + 1, 7, none⟩ (.int .i64 0)) := below_store8 hbel2 (Nat.le_succ _) _ _ _ _ _ _ _ _
  obtain ⟨z0, z1, z2, z3, z4, z5, z6, z7⟩ := Z2.out.all
  have zf := Z2.out.free
  simp only [zer] at z0 z1 z2 z3 z4 z5 z6 z7
  go_wp2
  generalize ((((((((w2.setCell ⟨w.heap.size + 1, 0, none⟩ (.int .i64 0)).setCell ⟨w.heap.size + 1, 1, none⟩ (.int .i64 0)).setCell ⟨w.heap.size + 1, 2, none⟩ (.int .i64 0)).setCell ⟨w.heap.size + 1, 3, none⟩ (.int .i64 0)).setCell ⟨w.heap.size + 1, 4, none⟩ (.int .i64 0)).setCell ⟨w.heap.size + 1, 5, none⟩ (.int .i64 0)).setCell ⟨w.heap.size + 1, 6, none⟩ (.int .i64 0)).setCell ⟨w.heap.size + 1, 7, none⟩ (.int .i64 0)) = W9 at *
  have d9 := Hr.out.all
  obtain ⟨d0, d1, d2, d3, d4, d5, d6, d7⟩ := d9
  exact bodyPost_ret (v := .tuple #[arrOf zer, .int .i64 (0), .int .i64 9]) (by simp [results, Tryd.results57, go_sem, d0, d1, d2, d3, d4, d5, d6, d7, arrOf]) rfl ⟨rfl, hbel9⟩

set_option maxHeartbeats 1000000 in
/-- Fix, where the line is clean. -/
theorem fix_clean (l : W8) (c : Int) (w : World) (hv : validB l c = true) (hT : TabIn w) (hr : (chk l c).1 = 0) :
    Calls Tryd.prog 57 #[(.agg #[.int .i64 l.a0, .int .i64 l.a1, .int .i64 l.a2, .int .i64 l.a3, .int .i64 l.a4, .int .i64 l.a5, .int .i64 l.a6, .int .i64 l.a7]), .int .i64 c] w (RetB (.tuple #[arrOf l, .int .i64 c, .int .i64 0]) w) := by
  have hval := fun W => valid_l l c W
  have hchk := fun W hT => Check_any l c W hT
  rw [hv] at hval
  clear hv
  have HT := Lib.hid hT
  have Hchk := Lib.hid hchk
  clear hT hchk
  generalize chk l c = r at *
  obtain ⟨r0, r1, r2⟩ := r
  simp only at hr Hchk
  subst hr
  have Hl := Lib.hid ((BoxL.new w l.a0 l.a1 l.a2 l.a3 l.a4 l.a5 l.a6 l.a7).alloc (.cells #[.int .i64 0, .int .i64 0, .int .i64 0, .int .i64 0, .int .i64 0, .int .i64 0, .int .i64 0, .int .i64 0] 51))
  have Hz : Hid (BoxL ((w.alloc (.cells #[.int .i64 l.a0, .int .i64 l.a1, .int .i64 l.a2, .int .i64 l.a3, .int .i64 l.a4, .int .i64 l.a5, .int .i64 l.a6, .int .i64 l.a7] 51)).alloc (.cells #[.int .i64 0, .int .i64 0, .int .i64 0, .int .i64 0, .int .i64 0, .int .i64 0, .int .i64 0, .int .i64 0] 51)) (w.heap.size + 1) zer) := Lib.hid (by have := BoxL.new (w.alloc (.cells #[.int .i64 l.a0, .int .i64 l.a1, .int .i64 l.a2, .int .i64 l.a3, .int .i64 l.a4, .int .i64 l.a5, .int .i64 l.a6, .int .i64 l.a7] 51)) 0 0 0 0 0 0 0 0; simpa [zer] using this)
  have hbel := ((Below.refl w.heap.size w).alloc (Nat.le_refl _) (.cells #[.int .i64 l.a0, .int .i64 l.a1, .int .i64 l.a2, .int .i64 l.a3, .int .i64 l.a4, .int .i64 l.a5, .int .i64 l.a6, .int .i64 l.a7] 51)).alloc (by simp) (.cells #[.int .i64 0, .int .i64 0, .int .i64 0, .int .i64 0, .int .i64 0, .int .i64 0, .int .i64 0, .int .i64 0] 51)
  go_enter Tryd.func57, Tryd.ntmps57
  go_wp2_with fail
  generalize (w.alloc (.cells #[.int .i64 l.a0, .int .i64 l.a1, .int .i64 l.a2, .int .i64 l.a3, .int .i64 l.a4, .int .i64 l.a5, .int .i64 l.a6, .int .i64 l.a7] 51)).alloc (.cells #[.int .i64 0, .int .i64 0, .int .i64 0, .int .i64 0, .int .i64 0, .int .i64 0, .int .i64 0, .int .i64 0] 51) = W at *
  refine (hval _).mono ?_
  rintro e w1 ⟨rfl, hb1⟩
  have H1 := Lib.hid (Hl.out.below hb1)
  have Z1 := Lib.hid (Hz.out.below hb1)
  have hbel1 := hbel.trans (hb1.mono hbel.size)
  clear hb1
  obtain ⟨c0, c1, c2, c3, c4, c5, c6, c7⟩ := H1.out.all
  go_wp2_with fail
  refine (Hchk.out _ (HT.out.below hbel1)).mono ?_
  rintro e w2 ⟨rfl, hb2⟩
  have H2 := Lib.hid (H1.out.below hb2)
  have Z2 := Lib.hid (Z1.out.below hb2)
  have hbel2 := hbel1.trans (hb2.mono hbel1.size)
  clear hb2 c0 c1 c2 c3 c4 c5 c6 c7
  have Hr : Hid (BoxL ((((((((w2.setCell ⟨w.heap.size + 1, 0, none⟩ (.int .i64 l.a0)).setCell ⟨w.heap.size + 1, 1, none⟩ (.int .i64 l.a1)).setCell ⟨w.heap.size + 1, 2, none⟩ (.int .i64 l.a2)).setCell ⟨w.heap.size + 1, 3, none⟩ (.int .i64 l.a3)).setCell ⟨w.heap.size + 1, 4, none⟩ (.int .i64 l.a4)).setCell ⟨w.heap.size + 1, 5, none⟩ (.int .i64 l.a5)).setCell ⟨w.heap.size + 1, 6, none⟩ (.int .i64 l.a6)).setCell ⟨w.heap.size + 1, 7, none⟩ (.int .i64 l.a7)) (w.heap.size + 1) l) := Lib.hid (Z2.out.store8 l)
  have hbel9 : Below w.heap.size w ((((((((w2.setCell ⟨w.heap.size + 1, 0, none⟩ (.int .i64 l.a0)).setCell ⟨w.heap.size + 1, 1, none⟩ (.int .i64 l.a1)).setCell ⟨w.heap.size + 1, 2, none⟩ (.int .i64 l.a2)).setCell ⟨w.heap.size + 1, 3, none⟩ (.int .i64 l.a3)).setCell ⟨w.heap.size + 1, 4, none⟩ (.int .i64 l.a4)).setCell ⟨w.heap.size + 1, 5, none⟩ (.int .i64 l.a5)).setCell ⟨w.heap.size + 1, 6, none⟩ (.int .i64 l.a6)).setCell ⟨w.heap.size + 1, 7, none⟩ (.int .i64 l.a7)) := below_store8 hbel2 (Nat.le_succ _) _ _ _ _ _ _ _ _
  obtain ⟨z0, z1, z2, z3, z4, z5, z6, z7⟩ := Z2.out.all
  have zf := Z2.out.free
  simp only [zer] at z0 z1 z2 z3 z4 z5 z6 z7
  obtain ⟨c0, c1, c2, c3, c4, c5, c6, c7⟩ := H2.out.all
  go_wp2
  generalize ((((((((w2.setCell ⟨w.heap.size + 1, 0, none⟩ (.int .i64 l.a0)).setCell ⟨w.heap.size + 1, 1, none⟩ (.int .i64 l.a1)).setCell ⟨w.heap.size + 1, 2, none⟩ (.int .i64 l.a2)).setCell ⟨w.heap.size + 1, 3, none⟩ (.int .i64 l.a3)).setCell ⟨w.heap.size + 1, 4, none⟩ (.int .i64 l.a4)).setCell ⟨w.heap.size + 1, 5, none⟩ (.int .i64 l.a5)).setCell ⟨w.heap.size + 1, 6, none⟩ (.int .i64 l.a6)).setCell ⟨w.heap.size + 1, 7, none⟩ (.int .i64 l.a7)) = W9 at *
  have d9 := Hr.out.all
  obtain ⟨d0, d1, d2, d3, d4, d5, d6, d7⟩ := d9
  exact bodyPost_ret (v := .tuple #[arrOf l, .int .i64 (c), .int .i64 0]) (by simp [results, Tryd.results57, go_sem, d0, d1, d2, d3, d4, d5, d6, d7, arrOf]) rfl ⟨rfl, hbel9⟩

set_option maxHeartbeats 2000000 in
/-- Fix, where one bit is inverted. -/
theorem fix_one (l : W8) (c : Int) (w : World) (hv : validB l c = true) (hT : TabIn w) (hr : (chk l c).1 = 1) :
    Calls Tryd.prog 57 #[(.agg #[.int .i64 l.a0, .int .i64 l.a1, .int .i64 l.a2, .int .i64 l.a3, .int .i64 l.a4, .int .i64 l.a5, .int .i64 l.a6, .int .i64 l.a7]), .int .i64 c] w (RetB (.tuple #[arrOf (flpL l (chk l c).2.1 (chk l c).2.2), .int .i64 (flpC c (chk l c).2.1 (chk l c).2.2), .int .i64 0]) w) := by
  have hval := fun W => valid_l l c W
  have hchk := fun W hT => Check_any l c W hT
  rw [hv] at hval
  clear hv
  have HT := Lib.hid hT
  have Hchk := Lib.hid hchk
  clear hT hchk
  generalize chk l c = r at *
  obtain ⟨r0, r1, r2⟩ := r
  simp only at hr Hchk
  subst hr
  have Hl := Lib.hid ((BoxL.new w l.a0 l.a1 l.a2 l.a3 l.a4 l.a5 l.a6 l.a7).alloc (.cells #[.int .i64 0, .int .i64 0, .int .i64 0, .int .i64 0, .int .i64 0, .int .i64 0, .int .i64 0, .int .i64 0] 51))
  have Hz : Hid (BoxL ((w.alloc (.cells #[.int .i64 l.a0, .int .i64 l.a1, .int .i64 l.a2, .int .i64 l.a3, .int .i64 l.a4, .int .i64 l.a5, .int .i64 l.a6, .int .i64 l.a7] 51)).alloc (.cells #[.int .i64 0, .int .i64 0, .int .i64 0, .int .i64 0, .int .i64 0, .int .i64 0, .int .i64 0, .int .i64 0] 51)) (w.heap.size + 1) zer) := Lib.hid (by have := BoxL.new (w.alloc (.cells #[.int .i64 l.a0, .int .i64 l.a1, .int .i64 l.a2, .int .i64 l.a3, .int .i64 l.a4, .int .i64 l.a5, .int .i64 l.a6, .int .i64 l.a7] 51)) 0 0 0 0 0 0 0 0; simpa [zer] using this)
  have hbel := ((Below.refl w.heap.size w).alloc (Nat.le_refl _) (.cells #[.int .i64 l.a0, .int .i64 l.a1, .int .i64 l.a2, .int .i64 l.a3, .int .i64 l.a4, .int .i64 l.a5, .int .i64 l.a6, .int .i64 l.a7] 51)).alloc (by simp) (.cells #[.int .i64 0, .int .i64 0, .int .i64 0, .int .i64 0, .int .i64 0, .int .i64 0, .int .i64 0, .int .i64 0] 51)
  go_enter Tryd.func57, Tryd.ntmps57
  go_wp2_with fail
  generalize (w.alloc (.cells #[.int .i64 l.a0, .int .i64 l.a1, .int .i64 l.a2, .int .i64 l.a3, .int .i64 l.a4, .int .i64 l.a5, .int .i64 l.a6, .int .i64 l.a7] 51)).alloc (.cells #[.int .i64 0, .int .i64 0, .int .i64 0, .int .i64 0, .int .i64 0, .int .i64 0, .int .i64 0, .int .i64 0] 51) = W at *
  refine (hval _).mono ?_
  rintro e w1 ⟨rfl, hb1⟩
  have H1 := Lib.hid (Hl.out.below hb1)
  have Z1 := Lib.hid (Hz.out.below hb1)
  have hbel1 := hbel.trans (hb1.mono hbel.size)
  clear hb1
  obtain ⟨c0, c1, c2, c3, c4, c5, c6, c7⟩ := H1.out.all
  go_wp2_with fail
  refine (Hchk.out _ (HT.out.below hbel1)).mono ?_
  rintro e w2 ⟨rfl, hb2⟩
  have H2 := Lib.hid (H1.out.below hb2)
  have Z2 := Lib.hid (Z1.out.below hb2)
  have hbel2 := hbel1.trans (hb2.mono hbel1.size)
  clear hb2 c0 c1 c2 c3 c4 c5 c6 c7
  obtain ⟨c0, c1, c2, c3, c4, c5, c6, c7⟩ := H2.out.all
  have hfl := fun W => Flip_l l c r1 r2 W
  simp only
  generalize flpL l r1 r2 = m at *
  generalize flpC c r1 r2 = k at *
  unfold arrOf at hfl
  go_wp2_with fail
  refine (hfl _).mono ?_
  rintro e w3 ⟨rfl, hb3⟩
  have H3 := Lib.hid (H2.out.below hb3)
  have Z3 := Lib.hid (Z2.out.below hb3)
  have hbel3 := hbel2.trans (hb3.mono hbel2.size)
  clear hb3 c0 c1 c2 c3 c4 c5 c6 c7
  have Z4 : Hid (BoxL ((((((((w3.setCell ⟨w.heap.size, 0, none⟩ (.int .i64 m.a0)).setCell ⟨w.heap.size, 1, none⟩ (.int .i64 m.a1)).setCell ⟨w.heap.size, 2, none⟩ (.int .i64 m.a2)).setCell ⟨w.heap.size, 3, none⟩ (.int .i64 m.a3)).setCell ⟨w.heap.size, 4, none⟩ (.int .i64 m.a4)).setCell ⟨w.heap.size, 5, none⟩ (.int .i64 m.a5)).setCell ⟨w.heap.size, 6, none⟩ (.int .i64 m.a6)).setCell ⟨w.heap.size, 7, none⟩ (.int .i64 m.a7)) (w.heap.size + 1) zer) := Lib.hid (BoxL.store8_other Z3.out (by omega) _ _ _ _ _ _ _ _)
  have H4 : Hid (BoxL ((((((((w3.setCell ⟨w.heap.size, 0, none⟩ (.int .i64 m.a0)).setCell ⟨w.heap.size, 1, none⟩ (.int .i64 m.a1)).setCell ⟨w.heap.size, 2, none⟩ (.int .i64 m.a2)).setCell ⟨w.heap.size, 3, none⟩ (.int .i64 m.a3)).setCell ⟨w.heap.size, 4, none⟩ (.int .i64 m.a4)).setCell ⟨w.heap.size, 5, none⟩ (.int .i64 m.a5)).setCell ⟨w.heap.size, 6, none⟩ (.int .i64 m.a6)).setCell ⟨w.heap.size, 7, none⟩ (.int .i64 m.a7)) w.heap.size m) := Lib.hid (H3.out.store8 m)
  have hbel4 : Below w.heap.size w ((((((((w3.setCell ⟨w.heap.size, 0, none⟩ (.int .i64 m.a0)).setCell ⟨w.heap.size, 1, none⟩ (.int .i64 m.a1)).setCell ⟨w.heap.size, 2, none⟩ (.int .i64 m.a2)).setCell ⟨w.heap.size, 3, none⟩ (.int .i64 m.a3)).setCell ⟨w.heap.size, 4, none⟩ (.int .i64 m.a4)).setCell ⟨w.heap.size, 5, none⟩ (.int .i64 m.a5)).setCell ⟨w.heap.size, 6, none⟩ (.int .i64 m.a6)).setCell ⟨w.heap.size, 7, none⟩ (.int .i64 m.a7)) := below_store8 hbel3 (Nat.le_refl _) _ _ _ _ _ _ _ _
  obtain ⟨c0, c1, c2, c3, c4, c5, c6, c7⟩ := H3.out.all
  have hf := H3.out.free
  go_upto_region 9 with (fail)
  generalize ((((((((w3.setCell ⟨w.heap.size, 0, none⟩ (.int .i64 m.a0)).setCell ⟨w.heap.size, 1, none⟩ (.int .i64 m.a1)).setCell ⟨w.heap.size, 2, none⟩ (.int .i64 m.a2)).setCell ⟨w.heap.size, 3, none⟩ (.int .i64 m.a3)).setCell ⟨w.heap.size, 4, none⟩ (.int .i64 m.a4)).setCell ⟨w.heap.size, 5, none⟩ (.int .i64 m.a5)).setCell ⟨w.heap.size, 6, none⟩ (.int .i64 m.a6)).setCell ⟨w.heap.size, 7, none⟩ (.int .i64 m.a7)) = W4 at *
  clear c0 c1 c2 c3 c4 c5 c6 c7 hf
  obtain ⟨c0, c1, c2, c3, c4, c5, c6, c7⟩ := H4.out.all
  have Hr : Hid (BoxL ((((((((W4.setCell ⟨w.heap.size + 1, 0, none⟩ (.int .i64 m.a0)).setCell ⟨w.heap.size + 1, 1, none⟩ (.int .i64 m.a1)).setCell ⟨w.heap.size + 1, 2, none⟩ (.int .i64 m.a2)).setCell ⟨w.heap.size + 1, 3, none⟩ (.int .i64 m.a3)).setCell ⟨w.heap.size + 1, 4, none⟩ (.int .i64 m.a4)).setCell ⟨w.heap.size + 1, 5, none⟩ (.int .i64 m.a5)).setCell ⟨w.heap.size + 1, 6, none⟩ (.int .i64 m.a6)).setCell ⟨w.heap.size + 1, 7, none⟩ (.int .i64 m.a7)) (w.heap.size + 1) m) := Lib.hid (Z4.out.store8 m)
  have hbel9 : Below w.heap.size w ((((((((W4.setCell ⟨w.heap.size + 1, 0, none⟩ (.int .i64 m.a0)).setCell ⟨w.heap.size + 1, 1, none⟩ (.int .i64 m.a1)).setCell ⟨w.heap.size + 1, 2, none⟩ (.int .i64 m.a2)).setCell ⟨w.heap.size + 1, 3, none⟩ (.int .i64 m.a3)).setCell ⟨w.heap.size + 1, 4, none⟩ (.int .i64 m.a4)).setCell ⟨w.heap.size + 1, 5, none⟩ (.int .i64 m.a5)).setCell ⟨w.heap.size + 1, 6, none⟩ (.int .i64 m.a6)).setCell ⟨w.heap.size + 1, 7, none⟩ (.int .i64 m.a7)) := below_store8 hbel4 (Nat.le_succ _) _ _ _ _ _ _ _ _
  obtain ⟨z0, z1, z2, z3, z4, z5, z6, z7⟩ := Z4.out.all
  have zf := Z4.out.free
  simp only [zer] at z0 z1 z2 z3 z4 z5 z6 z7
  go_wp2
  generalize ((((((((W4.setCell ⟨w.heap.size + 1, 0, none⟩ (.int .i64 m.a0)).setCell ⟨w.heap.size + 1, 1, none⟩ (.int .i64 m.a1)).setCell ⟨w.heap.size + 1, 2, none⟩ (.int .i64 m.a2)).setCell ⟨w.heap.size + 1, 3, none⟩ (.int .i64 m.a3)).setCell ⟨w.heap.size + 1, 4, none⟩ (.int .i64 m.a4)).setCell ⟨w.heap.size + 1, 5, none⟩ (.int .i64 m.a5)).setCell ⟨w.heap.size + 1, 6, none⟩ (.int .i64 m.a6)).setCell ⟨w.heap.size + 1, 7, none⟩ (.int .i64 m.a7)) = W9 at *
  have d9 := Hr.out.all
  obtain ⟨d0, d1, d2, d3, d4, d5, d6, d7⟩ := d9
  exact bodyPost_ret (v := .tuple #[arrOf m, .int .i64 (k), .int .i64 0]) (by simp [results, Tryd.results57, go_sem, d0, d1, d2, d3, d4, d5, d6, d7, arrOf]) rfl ⟨rfl, hbel9⟩

end Go.Proofs.YtlolaieolgmdnaaDoor
end

section
namespace Go.Proofs.YtlolaieolgmdnaaDoor
open Go.RowKit

theorem chk_state (l : W8) (c : Int) : (chk l c).1 = 0 ∨ (chk l c).1 = 1 ∨ (chk l c).1 = 2 := by
  unfold chk
  repeat' split
  all_goals simp

theorem Fix_any (l : W8) (c : Int) (w : World) (hT : TabIn w) :
    Calls Tryd.prog 57 #[(.agg #[.int .i64 l.a0, .int .i64 l.a1, .int .i64 l.a2, .int .i64 l.a3, .int .i64 l.a4, .int .i64 l.a5, .int .i64 l.a6, .int .i64 l.a7]), .int .i64 c] w (RetB (.tuple #[arrOf (fix l c).1, .int .i64 (fix l c).2.1, .int .i64 (fix l c).2.2]) w) := by
  cases hv : validB l c with
  | false =>
    have e : fix l c = (zer, 0, 1) := by unfold fix; rw [hv]; rfl
    rw [e]; exact fix_no l c w hv
  | true =>
    rcases chk_state l c with h | h | h
    · have e : fix l c = (l, c, 0) := by unfold fix; rw [if_pos hv, h]; rfl
      rw [e]; exact fix_clean l c w hv hT h
    · have e : fix l c = (flpL l (chk l c).2.1 (chk l c).2.2, flpC c (chk l c).2.1 (chk l c).2.2, 0) := by unfold fix; rw [if_pos hv, h]; rfl
      rw [e]; exact fix_one l c w hv hT h
    · have e : fix l c = (zer, 0, 9) := by unfold fix; rw [if_pos hv, h]; rfl
      rw [e]; exact fix_rot l c w hv hT h

end Go.Proofs.YtlolaieolgmdnaaDoor
end

section
namespace Go.Proofs.YtlolaieolgmdnaaDoor

/-- Bit i of a line with its code. -/
def cb (l : W8) (c : Nat) (i : Nat) : Bool := if i < 320 then lb l i else c.testBit (i - 320)
/-- The position of bit i; the last bit has none. -/
def PP (i : Nat) : Nat := if i < 320 then posn i else if i < 329 then 2 ^ (i - 320) else 0

theorem PP_tab : ∀ i : Fin 330, PP i.val < 512 ∧ (i.val < 329 → PP i.val ≠ 0) ∧ (320 ≤ i.val → i.val < 329 → PP i.val &&& (PP i.val - 1) = 0) := by decide +kernel
theorem PP_last : PP 329 = 0 := by decide +kernel
theorem pow_inj9 : ∀ i j : Fin 9, 2 ^ i.val = 2 ^ j.val → i.val = j.val := by decide +kernel

theorem PP_inj {i j : Nat} (hi : i < 330) (hj : j < 330) (h : PP i = PP j) : i = j := by
  obtain ⟨_, ni, pi⟩ := PP_tab ⟨i, hi⟩
  obtain ⟨_, nj, pj⟩ := PP_tab ⟨j, hj⟩
  simp only at ni pi nj pj
  by_cases i9 : i = 329
  · subst i9
    rw [PP_last] at h
    by_cases j9 : j = 329
    · exact j9.symm
    · exact absurd h.symm (nj (by omega))
  · by_cases j9 : j = 329
    · subst j9; rw [PP_last] at h; exact absurd h (ni (by omega))
    · by_cases i3 : i < 320
      · have hip := posn_nopow ⟨i, i3⟩
        have ei : PP i = posn i := by unfold PP; rw [if_pos i3]
        by_cases j3 : j < 320
        · have ej : PP j = posn j := by unfold PP; rw [if_pos j3]
          exact posn_inj i3 j3 (by rw [← ei, ← ej, h])
        · have := pj (by omega) (by omega)
          rw [← h, ei] at this
          exact absurd this hip
      · by_cases j3 : j < 320
        · have hjp := posn_nopow ⟨j, j3⟩
          have ej : PP j = posn j := by unfold PP; rw [if_pos j3]
          have := pi (by omega) (by omega)
          rw [h, ej] at this
          exact absurd this hjp
        · have ei : PP i = 2 ^ (i - 320) := by unfold PP; rw [if_neg i3, if_pos (by omega)]
          have ej : PP j = 2 ^ (j - 320) := by unfold PP; rw [if_neg j3, if_pos (by omega)]
          have := pow_inj9 ⟨i - 320, by omega⟩ ⟨j - 320, by omega⟩ (by simp only; rw [← ei, ← ej, h])
          simp only at this
          omega

theorem xs_code (c : Nat) : xs (fun j => c.testBit j) (fun j => 2 ^ j) 9 = c % 512 := by
  have h : ∀ n, n ≤ 9 → xs (fun j => c.testBit j) (fun j => 2 ^ j) n = cs c n := by
    intro n
    induction n with
    | zero => intro _; rw [cs_zero]; rfl
    | succ n ih => intro hn; rw [xs_succ, ih (by omega), cs_step c n (by omega)]
  rw [h 9 (by omega), ← cs_last, cs_ten]

theorem synC_bits (l : W8) (c : Nat) : synC l c = xs (cb l c) PP 330 := by
  have e0 : xs (cb l c) PP 330 = xs (cb l c) PP 320 ^^^ xs (fun i => cb l c (320 + i)) (fun i => PP (320 + i)) 10 := xs_add _ _ 320 10
  have e3 : xs (fun i => cb l c (320 + i)) (fun i => PP (320 + i)) 10 = xs (fun i => cb l c (320 + i)) (fun i => PP (320 + i)) 9 ^^^ (if cb l c (320 + 9) then PP (320 + 9) else 0) := xs_succ _ _ 9
  rw [e0, e3]
  have e1 : xs (cb l c) PP 320 = syn l := by
    unfold syn
    rw [xs_congr (cb l c) (lb l) PP 320 fun i hi => by unfold cb; rw [if_pos hi]]
    exact xs_ext _ _ _ _ fun i hi => by unfold PP; rw [if_pos hi]
  have e2 : xs (fun i => cb l c (320 + i)) (fun i => PP (320 + i)) 9 = c % 512 := by
    rw [← xs_code]
    rw [xs_congr (fun i => cb l c (320 + i)) (fun j => c.testBit j) _ 9 fun i hi => by unfold cb; rw [if_neg (by omega), Nat.add_sub_cancel_left]]
    exact xs_ext _ _ _ _ fun i hi => by simp only [PP]; rw [if_neg (by omega), if_pos (by omega), Nat.add_sub_cancel_left]
  rw [e1, e2, show PP (320 + 9) = 0 from PP_last]
  unfold synC
  rw [Int.toNat_natCast]
  simp

theorem cnt_bits (l : W8) (c : Nat) (hc : c < 1024) : cnt l + pop 40 c = cn (cb l c) 330 := by
  rw [show (330 : Nat) = 320 + 10 from rfl, cn_add, pop_code c hc]
  have e1 : cn (cb l c) 320 = cnt l := cn_congr _ _ _ fun i hi => by unfold cb; rw [if_pos hi]
  have e2 : cn (fun i => cb l c (320 + i)) 10 = pop 10 c := cn_congr _ _ _ fun i hi => by unfold cb; rw [if_neg (by omega), Nat.add_sub_cancel_left]
  rw [e1, e2]

theorem oddC_bits (l : W8) (c : Nat) (hc : c < 1024) : oddC l c = (cn (cb l c) 330 % 2 == 1) := by
  unfold oddC; rw [Int.toNat_natCast, cnt_bits l c hc]

/-- The bits tell the line and its code. -/
theorem bits_ext (l m : W8) (c d : Nat) (hv : validB l c = true) (hv2 : validB m d = true) (h : ∀ i, i < 330 → cb l c i = cb m d i) : l = m ∧ c = d := by
  have hc := (validB_iff.1 hv).2
  have hd := (validB_iff.1 hv2).2
  refine ⟨W8.ext_get fun k hk => ?_, ?_⟩
  · obtain ⟨h1, e1⟩ := wd_lt hv k hk
    obtain ⟨h2, e2⟩ := wd_lt hv2 k hk
    rw [← e1, ← e2]
    congr 1
    apply Nat.eq_of_testBit_eq
    intro j
    by_cases hj : j < 40
    · have := h (40 * k + j) (by omega)
      unfold cb at this
      rw [if_pos (by omega), if_pos (by omega), lb_at l k j hj, lb_at m k j hj] at this
      exact this
    · have hp : 2 ^ 40 ≤ 2 ^ j := Nat.pow_le_pow_right (by decide) (by omega)
      rw [Nat.testBit_lt_two_pow (by omega), Nat.testBit_lt_two_pow (by omega)]
  · apply Nat.eq_of_testBit_eq
    intro j
    by_cases hj : j < 10
    · have := h (320 + j) (by omega)
      unfold cb at this
      rw [if_neg (by omega), if_neg (by omega), Nat.add_sub_cancel_left] at this
      exact this
    · have hp : 2 ^ 10 ≤ 2 ^ j := Nat.pow_le_pow_right (by decide) (by omega)
      rw [Nat.testBit_lt_two_pow (by omega), Nat.testBit_lt_two_pow (by omega)]

/-- The word and the bit that have number i. -/
def wI (i : Nat) : Int := if 320 ≤ i then 8 else (i : Int) / 40
def bI (i : Nat) : Int := if 320 ≤ i then (i : Int) - 320 else (i : Int) % 40
theorem ex_I (i : Nat) (h : i < 330) : exB (wI i) (bI i) = true := by
  rw [exB_iff]; unfold wI bI
  split <;> omega

/-- A line, its code, with bit i inverted. -/
def flL (l : W8) (i : Nat) : W8 := flpL l (wI i) (bI i)
def flC (c : Nat) (i : Nat) : Nat := if 320 ≤ i then c ^^^ 2 ^ (i - 320) else c

theorem two_lt (n j k : Nat) (hn : n < 2 ^ k) (hj : j < k) : n ^^^ 2 ^ j < 2 ^ k := Nat.xor_lt_two_pow hn (Nat.pow_lt_pow_right (by decide) hj)

theorem flC_is (c i : Nat) (hc : c < 1024) (hi : i < 330) : flpC c (wI i) (bI i) = ((flC c i : Nat) : Int) := by
  unfold flpC flC
  rw [ex_I i hi, if_pos rfl]
  unfold wI bI
  by_cases h : 320 ≤ i
  · rw [if_pos h, if_pos h, if_pos rfl, if_pos h]
    have e : ((i : Int) - 320).toNat = i - 320 := by omega
    have hp : 2 ^ (i - 320) < 2 ^ 10 := Nat.pow_lt_pow_right (by decide) (by omega)
    rw [e, show (2 : Int) ^ (i - 320) = ((2 ^ (i - 320) : Nat) : Int) from by simp, xor_i64 _ _ (by omega) (by omega)]
  · rw [if_neg h, if_neg h, if_neg (by omega), if_neg h]

theorem flL_code (l : W8) (i : Nat) (h : 320 ≤ i) : flL l i = l := by
  unfold flL flpL wI bI
  rw [if_pos h, if_pos h]
  split <;> rfl

theorem flL_get (l : W8) (i : Nat) (hi : i < 320) (k : Nat) : (flL l i).get k = if k = i / 40 then bits .xor .i64 (l.get (i / 40)) ((2 ^ (i % 40) : Nat) : Int) else l.get k := by
  unfold flL flpL
  rw [ex_I i (by omega), if_pos rfl]
  unfold wI bI
  rw [if_neg (by omega), if_neg (by omega), if_neg (by omega)]
  have e1 : ((i : Int) / 40).toNat = i / 40 := by omega
  have e2 : ((i : Int) % 40).toNat = i % 40 := by omega
  rw [e1, e2, W8.get_set _ _ _ _ (by omega)]
  simp

theorem wd_flL (l : W8) (c i : Nat) (hv : validB l c = true) (hi : i < 320) (k : Nat) (hk : k < 8) :
    (flL l i).get k = (((if k = i / 40 then wd l k ^^^ 2 ^ (i % 40) else wd l k) : Nat) : Int) ∧ (if k = i / 40 then wd l k ^^^ 2 ^ (i % 40) else wd l k) < 1099511627776 := by
  rw [flL_get l i hi k]
  obtain ⟨h1, e1⟩ := wd_lt hv k hk
  by_cases h : k = i / 40
  · subst h
    rw [if_pos rfl, if_pos rfl, ← e1]
    have hp : 2 ^ (i % 40) < 2 ^ 40 := Nat.pow_lt_pow_right (by decide) (by omega)
    exact ⟨xor_i64 _ _ (by omega) (by omega), two_lt _ _ 40 h1 (by omega)⟩
  · rw [if_neg h, if_neg h]
    exact ⟨e1.symm, h1⟩

theorem flC_lt (c i : Nat) (hc : c < 1024) (hi : i < 330) : flC c i < 1024 := by
  unfold flC
  split
  · exact two_lt _ _ 10 hc (by omega)
  · exact hc

theorem fl_valid (l : W8) (c i : Nat) (hv : validB l c = true) (hi : i < 330) : validB (flL l i) (flC c i : Nat) = true := by
  have hc := (validB_iff.1 hv).2
  have h2 := flC_lt c i (by omega) hi
  refine validB_yes (fun k hk => ?_) (by omega) (by omega)
  by_cases h : 320 ≤ i
  · rw [flL_code l i h]; exact (validB_iff.1 hv).1 k hk
  · obtain ⟨h1, h3⟩ := wd_flL l c i hv (by omega) k hk
    rw [h1]; omega

/-- Inverting bit i inverts bit i alone. -/
theorem fl_bits (l : W8) (c i : Nat) (hv : validB l c = true) (hi : i < 330) (j : Nat) (hj : j < 330) : cb (flL l i) (flC c i) j = (cb l c j != (i == j)) := by
  unfold cb
  by_cases h : 320 ≤ i
  · rw [flL_code l i h]
    by_cases hj3 : j < 320
    · rw [if_pos hj3, if_pos hj3]
      have : (i == j) = false := by rw [beq_eq_false_iff_ne]; omega
      rw [this]; simp
    · rw [if_neg hj3, if_neg hj3]
      unfold flC
      rw [if_pos h, Nat.testBit_xor, Nat.testBit_two_pow]
      have : (i == j) = decide (i - 320 = j - 320) := by
        rw [Bool.eq_iff_iff, beq_iff_eq, decide_eq_true_iff]; omega
      rw [this]
  · have ec : flC c i = c := by unfold flC; rw [if_neg h]
    rw [ec]
    by_cases hj3 : j < 320
    · rw [if_pos hj3, if_pos hj3]
      obtain ⟨h1, _⟩ := wd_flL l c i hv (by omega) (j / 40) (by omega)
      have e : wd (flL l i) (j / 40) = if j / 40 = i / 40 then wd l (j / 40) ^^^ 2 ^ (i % 40) else wd l (j / 40) := by
        show ((flL l i).get (j / 40)).toNat = _
        rw [h1, Int.toNat_natCast]
      have e2 : lb (flL l i) j = (wd (flL l i) (j / 40)).testBit (j % 40) := rfl
      have e3 : lb l j = (wd l (j / 40)).testBit (j % 40) := rfl
      rw [e2, e3, e]
      clear e2 e3 e h1
      generalize wd l (j / 40) = x
      by_cases hq : j / 40 = i / 40
      · rw [if_pos hq, Nat.testBit_xor, Nat.testBit_two_pow]
        have : (i == j) = decide (i % 40 = j % 40) := by
          rw [Bool.eq_iff_iff, beq_iff_eq, decide_eq_true_iff]; omega
        rw [this]
      · rw [if_neg hq]
        have : (i == j) = false := by rw [beq_eq_false_iff_ne]; intro hh; subst hh; exact hq rfl
        rw [this]; simp
    · rw [if_neg hj3, if_neg hj3]
      have : (i == j) = false := by rw [beq_eq_false_iff_ne]; omega
      rw [this]; simp

end Go.Proofs.YtlolaieolgmdnaaDoor
end

section
namespace Go.Proofs.YtlolaieolgmdnaaDoor

theorem xs_xor (f g : Nat → Bool) (p : Nat → Nat) (n : Nat) : xs (fun j => f j != g j) p n = xs f p n ^^^ xs g p n := by
  induction n with
  | zero => simp [xs]
  | succ n ih =>
    rw [xs_succ, xs_succ, xs_succ, ih]
    cases f n <;> cases g n
    · simp
    · simp [Nat.xor_assoc]
    · simp only [bne_iff_ne, ne_eq, Bool.true_eq_false, not_false_eq_true, if_true, Bool.false_eq_true, if_false, Nat.xor_zero]
      rw [Nat.xor_assoc, Nat.xor_assoc, Nat.xor_comm (xs g p n)]
    · simp only [bne_self_eq_false, Bool.false_eq_true, if_false, if_true, Nat.xor_zero]
      rw [Nat.xor_assoc, Nat.xor_comm (p n), Nat.xor_assoc, Nat.xor_self, Nat.xor_zero]

theorem cn_xor (f g : Nat → Bool) (n : Nat) : cn (fun j => f j != g j) n % 2 = (cn f n + cn g n) % 2 := by
  induction n with
  | zero => rfl
  | succ n ih =>
    rw [cn_succ, cn_succ, cn_succ]
    cases f n <;> cases g n <;> simp <;> omega

theorem xs_at (i n : Nat) (p : Nat → Nat) : xs (fun j => i == j) p n = if i < n then p i else 0 := by
  induction n with
  | zero => simp [xs]
  | succ n ih =>
    rw [xs_succ, ih]
    by_cases h : i = n
    · subst h; simp
    · have hb : (i == n) = false := by rw [beq_eq_false_iff_ne]; exact h
      by_cases h2 : i < n
      · simp [hb, h2, Nat.lt_succ_of_lt h2]
      · have h3 : ¬ i < n + 1 := by omega
        simp [hb, h2, h3]

theorem cn_at (i n : Nat) : cn (fun j => i == j) n = if i < n then 1 else 0 := by
  induction n with
  | zero => simp [cn]
  | succ n ih =>
    rw [cn_succ, ih]
    by_cases h : i = n
    · subst h; simp
    · have hb : (i == n) = false := by rw [beq_eq_false_iff_ne]; exact h
      by_cases h2 : i < n
      · simp [hb, h2, Nat.lt_succ_of_lt h2]
      · have h3 : ¬ i < n + 1 := by omega
        simp [hb, h2, h3]

/-- The code of a line, as a natural number. -/
def encN (l : W8) : Nat := syn l + 512 * ((cnt l + pop 40 (syn l)) % 2)
theorem encN_lt (l : W8) : encN l < 1024 := by have := syn_lt l; unfold encN; omega
theorem enc_is (l : W8) (hv : validB l 0 = true) : enc l = ((encN l : Nat) : Int) := by unfold enc encN; rw [if_pos hv]

theorem pop_split (s b : Nat) (hs : s < 512) (hb : b < 2) : pop 40 (s + 512 * b) = pop 40 s + b := by
  have e : s + 512 * b = 2 ^ 9 * b + s := by omega
  have h9 : s < 2 ^ 9 := by omega
  have h1 : pop 40 (s + 512 * b) = pop 9 s + b := by
    rw [pop_code _ (by omega), show (10 : Nat) = 9 + 1 from rfl, pop_succ, e]
    have e2 : pop 9 (2 ^ 9 * b + s) = pop 9 s := cn_congr _ _ _ fun i hi => by rw [Nat.testBit_two_pow_mul_add _ h9, if_pos hi]
    have e3 : (2 ^ 9 * b + s).testBit 9 = decide (b = 1) := by
      rw [Nat.testBit_two_pow_mul_add _ h9, if_neg (by omega)]
      rcases (by omega : b = 0 ∨ b = 1) with rfl | rfl <;> rfl
    rw [e2, e3]
    rcases (by omega : b = 0 ∨ b = 1) with rfl | rfl <;> simp
  have h2 : pop 40 s = pop 9 s := by
    rw [pop_code _ (by omega), show (10 : Nat) = 9 + 1 from rfl, pop_succ, Nat.testBit_lt_two_pow h9]; simp
  rw [h1, h2]

theorem synC_nat (l : W8) (n : Nat) : synC l n = syn l ^^^ (n % 512) := by unfold synC; rw [Int.toNat_natCast]
theorem oddC_nat (l : W8) (n : Nat) : oddC l n = ((cnt l + pop 40 n) % 2 == 1) := by unfold oddC; rw [Int.toNat_natCast]

theorem encN_syn (l : W8) : synC l (encN l) = 0 := by
  have hs := syn_lt l
  rw [synC_nat, show encN l % 512 = syn l from by unfold encN; omega, Nat.xor_self]
theorem encN_odd (l : W8) : oddC l (encN l) = false := by
  rw [oddC_nat]
  unfold encN
  rw [pop_split _ _ (syn_lt l) (by omega), beq_eq_false_iff_ne]
  omega

theorem xor_zero_eq {a b : Nat} (h : a ^^^ b = 0) : a = b := by
  have : (a ^^^ b) ^^^ b = b := by rw [h, Nat.zero_xor]
  rwa [Nat.xor_assoc, Nat.xor_self, Nat.xor_zero] at this

/-- It is the only code with which the line is clean. -/
theorem encN_only (l : W8) (c : Nat) (hc : c < 1024) (h0 : synC l c = 0) (h1 : oddC l c = false) : c = encN l := by
  have hs := syn_lt l
  rw [synC_nat] at h0
  have hm := xor_zero_eq h0
  rw [oddC_nat] at h1
  have ec : c = syn l + 512 * (c / 512) := by omega
  rw [ec, pop_split _ _ hs (by omega), beq_eq_false_iff_ne] at h1
  unfold encN
  omega

theorem chk_clean (l : W8) (c : Nat) (hv : validB l c = true) : (chk l c).1 = 0 ↔ (synC l c = 0 ∧ oddC l c = false) := by
  unfold chk
  rw [if_pos hv]
  cases ho : oddC l c with
  | false =>
    rw [if_neg (by simp)]
    by_cases h0 : synC l c = 0
    · rw [if_pos h0]; simp [h0]
    · rw [if_neg h0]; simp [h0]
  | true =>
    rw [if_pos rfl]
    by_cases h0 : synC l c = 0
    · rw [if_pos h0]; simp
    · rw [if_neg h0]
      by_cases hp : synC l c &&& (synC l c - 1) = 0
      · rw [if_pos hp]; simp
      · rw [if_neg hp]
        cases findP (synC l c) <;> simp

theorem chk_is_clean (l : W8) (c : Nat) (hv : validB l c = true) (h0 : synC l c = 0) (h1 : oddC l c = false) : chk l c = (0, 0, 0) := by
  unfold chk; rw [if_pos hv, h1, if_neg (by simp), if_pos h0]

theorem chk_enc (l : W8) (hv : validB l (encN l) = true) : chk l (encN l) = (0, 0, 0) := chk_is_clean l _ hv (encN_syn l) (encN_odd l)

theorem valid_enc (l : W8) (hv : validB l 0 = true) : validB l (encN l) = true :=
  validB_yes (validB_iff.1 hv).1 (by omega) (by have := encN_lt l; omega)

theorem clean_iff (l : W8) (c : Nat) (hv : validB l c = true) : (chk l c).1 = 0 ↔ c = encN l := by
  have hc := (validB_iff.1 hv).2
  rw [chk_clean l c hv]
  constructor
  · rintro ⟨h0, h1⟩; exact encN_only l c (by omega) h0 h1
  · rintro rfl; exact ⟨encN_syn l, encN_odd l⟩

theorem fix_clean_is (l : W8) (c : Nat) (hv : validB l c = true) (h : chk l c = (0, 0, 0)) : fix l c = (l, ((c : Nat) : Int), 0) := by
  unfold fix; rw [if_pos hv, h]; rfl
theorem fix_rot_is (l : W8) (c : Nat) (hv : validB l c = true) (h : chk l c = (2, 0, 0)) : fix l c = (zer, 0, 9) := by
  unfold fix; rw [if_pos hv, h]; rfl
theorem fix_one_is (l : W8) (c i : Nat) (hv : validB l c = true) (hi : i < 330) (h : chk l c = (1, wI i, bI i)) : fix l c = (flL l i, ((flC c i : Nat) : Int), 0) := by
  have hc := (validB_iff.1 hv).2
  unfold fix
  rw [if_pos hv, h]
  show (flpL l (wI i) (bI i), flpC c (wI i) (bI i), (0 : Int)) = _
  rw [flC_is c i (by omega) hi]
  rfl

theorem fl_syn (l : W8) (c i : Nat) (hv : validB l c = true) (hi : i < 330) : synC (flL l i) (flC c i) = synC l c ^^^ PP i := by
  rw [synC_bits, synC_bits, xs_congr _ _ _ _ fun j hj => fl_bits l c i hv hi j hj, xs_xor, xs_at, if_pos hi]
theorem fl_odd (l : W8) (c i : Nat) (hv : validB l c = true) (hi : i < 330) : oddC (flL l i) (flC c i) = !oddC l c := by
  have hc := (validB_iff.1 hv).2
  rw [oddC_bits _ _ (flC_lt c i (by omega) hi), oddC_bits _ _ (by omega), cn_congr _ _ _ fun j hj => fl_bits l c i hv hi j hj, cn_xor, cn_at, if_pos hi, Bool.eq_iff_iff]
  simp
  omega

theorem fl_fl (l : W8) (c i : Nat) (hv : validB l c = true) (hi : i < 330) : flL (flL l i) i = l ∧ flC (flC c i) i = c := by
  have h1 := fl_valid l c i hv hi
  have h2 := fl_valid _ _ i h1 hi
  refine bits_ext _ _ _ _ h2 hv fun j hj => ?_
  rw [fl_bits _ _ i h1 hi j hj, fl_bits l c i hv hi j hj]
  cases cb l c j <;> cases i == j <;> rfl

/-- An odd line whose syndrome is a position: Check names the bit. -/
theorem chk_pos (l : W8) (c i : Nat) (hv : validB l c = true) (ho : oddC l c = true) (hi : i < 330) (hs : synC l c = PP i) : chk l c = (1, wI i, bI i) := by
  by_cases h9 : i = 329
  · subst h9
    rw [PP_last] at hs
    unfold chk
    rw [if_pos hv, ho, if_pos rfl, if_pos hs]
    rfl
  · by_cases h3 : i < 320
    · have ei : PP i = posn i := by unfold PP; rw [if_pos h3]
      have hnp := posn_nopow ⟨i, h3⟩
      have hb := posn_bound ⟨i, h3⟩
      simp only at hnp hb
      have h0 : synC l c ≠ 0 := by rw [hs, ei]; omega
      have := chk_some l c hv ho h0 (fun k hk e => by
        have h2 := (pow_two ⟨k, hk⟩).1
        simp only at h2
        rw [← e, hs, ei] at h2
        exact hnp h2) i h3 (by rw [hs, ei])
      rw [this]
      unfold wI bI
      rw [if_neg (by omega), if_neg (by omega)]
    · have ei : PP i = 2 ^ (i - 320) := by unfold PP; rw [if_neg h3, if_pos (by omega)]
      rw [chk_pow l c hv ho (i - 320) (by omega) (by rw [hs, ei])]
      unfold wI bI
      rw [if_pos (by omega), if_pos (by omega), Int.natCast_sub (by omega)]
      rfl

/-- An odd line whose syndrome is no position is rotten. -/
theorem chk_nopos (l : W8) (c : Nat) (hv : validB l c = true) (ho : oddC l c = true) (hs : ∀ i, i < 330 → synC l c ≠ PP i) : chk l c = (2, 0, 0) := by
  have h0 : synC l c ≠ 0 := by have := hs 329 (by omega); rwa [PP_last] at this
  refine chk_none l c hv ho h0 (fun k hk e => hs (320 + k) (by omega) ?_) (fun i hi e => hs i (by omega) ?_)
  · rw [e]; unfold PP; rw [if_neg (by omega), if_pos (by omega), Nat.add_sub_cancel_left]
  · rw [← e]; unfold PP; rw [if_pos hi]

theorem chk_evenN (l : W8) (c : Nat) (hv : validB l c = true) (ho : oddC l c = false) (h0 : synC l c ≠ 0) : chk l c = (2, 0, 0) := by
  unfold chk; rw [if_pos hv, ho, if_neg (by simp), if_neg h0]



/-- What Fix returns without an error is valid and clean. -/
theorem fix_good (l : W8) (c : Nat) (hv : validB l c = true) (hs : (fix l c).2.2 = 0) : ∃ (m : W8) (d : Nat), fix l c = (m, ((d : Nat) : Int), 0) ∧ validB m d = true := by
  cases ho : oddC l c with
  | false =>
    by_cases h0 : synC l c = 0
    · exact ⟨l, c, fix_clean_is l c hv (chk_is_clean l c hv h0 ho), hv⟩
    · rw [fix_rot_is l c hv (chk_evenN l c hv ho h0)] at hs; cases hs
  | true =>
    by_cases hs2 : ∃ i, i < 330 ∧ synC l c = PP i
    · obtain ⟨i, hi, h⟩ := hs2
      exact ⟨flL l i, flC c i, fix_one_is l c i hv hi (chk_pos l c i hv ho hi h), fl_valid l c i hv hi⟩
    · rw [fix_rot_is l c hv (chk_nopos l c hv ho fun i hi e => hs2 ⟨i, hi, e⟩)] at hs; cases hs

end Go.Proofs.YtlolaieolgmdnaaDoor
end
