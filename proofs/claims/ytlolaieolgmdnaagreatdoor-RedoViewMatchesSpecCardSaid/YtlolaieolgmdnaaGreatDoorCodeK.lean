/-
  The walk of Check, where it searches for a position.
-/
import Derived.Test.YtlolaieolgmdnaaGreatDoorCodeJ
namespace Go.Proofs.YtlolaieolgmdnaaGreatDoor
open Go.RowKit Go.Shelf
set_option maxRecDepth 100000
attribute [local go_sem] Oper.semAt_some

set_option maxHeartbeats 400000 in
theorem positions_any (w : World) : Calls Tryz.prog 103 #[] w (RetS (.func (.func 119) #[] #[]) w) := by
  go_enter Tryz.func103, Tryz.ntmps103
  go_wp2
  go_ret
  exact ⟨rfl, rfl⟩

/-- A block of two cells. -/
def Boxed2 (W : World) (B : Nat) (t : TypeId) (v u : Value) : Prop := W.heap[B]? = some (.cells #[v, u] t)
theorem Boxed2.kept {W W' : World} {row : Option Nat} {B : Nat} {t : TypeId} {v u : Value} (h : Boxed2 W B t v u) (hg : W.grownBy W' row) (hne : some B ≠ row) : Boxed2 W' B t v u :=
  (hg.block B (Array.getElem?_eq_some_iff.1 h).1 hne).trans h
theorem Boxed2.new (W : World) (t : TypeId) (v u : Value) : Boxed2 (W.alloc (.cells #[v, u] t)) W.heap.size t v u := World.alloc_heap_new W _
theorem Boxed2.cell0 {W : World} {B : Nat} {t : TypeId} {v u : Value} (h : Boxed2 W B t v u) : W.cell? ⟨B, 0, none⟩ = some v := by simp [World.cell?, show W.heap[B]? = _ from h]
theorem Boxed2.cell1 {W : World} {B : Nat} {t : TypeId} {v u : Value} (h : Boxed2 W B t v u) : W.cell? ⟨B, 1, none⟩ = some u := by simp [World.cell?, show W.heap[B]? = _ from h]
theorem Boxed2.lt {W : World} {B : Nat} {t : TypeId} {v u : Value} (h : Boxed2 W B t v u) : B < W.heap.size := (Array.getElem?_eq_some_iff.1 h).1

/-- A range over a function whose variable lies in a box that each round lays anew. -/
theorem range_box {F : Fence} {n : Nat} {P : Program} {w : World} {α : Type} {g : Operand} {ps : Array Tmp} {assign body : Code} {Q : Exit → Act → World → Prop} {a : Act}
    (hro : F.round = none) (h1 : 1 ≤ n) {gf : Nat} {lb : Array Value} (hg : a.eval g = .func (.func gf) #[] lb) (hFg : F.fn gf) (eg : ∀ args w, (callFunc gf args).run P w = .ok (.enter gf args) w)
    {encs : α → Array Value} {Kp : World → World → Prop} {S Sp : List α → Prop} {N : Nat} {w0 : World} (hseq : SeqStopsK F (n - 1) P gf lb encs Kp S Sp N w0)
    (hKt : ∀ {A B C : World}, Kp A B → Kp B C → Kp A C) (hKb : ∀ (W : World) (l : Nat) (o o' : Obj), w.heap.size ≤ l → W.heap[l]? = some o → o.isCells = false → o.isWalk = false → Kp W (W.putObj l o')) (hb0 : Below w0.heap.size w0 w) (hps : ∀ x, (encs x).size = ps.size)
    (I : List α → World → Prop) (Ix : Code → List α → World → Prop) (hI : OwnFrom w.heap.size I) (hIx : ∀ c, OwnFrom w.heap.size (Ix c)) (h0 : I [] w)
    (G : α → Nat → World → Prop) (hG : ∀ x B, OwnFrom w.heap.size (fun (_ : Unit) W => G x B W)) (upd : Act → α → Nat → Act)
    (hassign : ∀ (l : Nat) (pre : List α) (x : α) (W : World) (K : Act → World → Prop), I pre W → (∀ B W', KeepsFrom w.heap.size W W' → Kp W W' → I pre W' → G x B W' → K (upd a x B) W') →
      assign.wpIn (F.inRound l) (n - 1 - 1) P (Exit.then K (fun _ _ _ => False)) { tmps := (ps.zip (encs x)).foldl (fun t (p, v) => t.setIfInBounds p v) a.tmps, defers := [] } W)
    (hbody : ∀ (l : Nat) (pre : List α) (x : α) (B : Nat) (W : World), I pre W → G x B W → pre.length < N → body.wpIn (F.inRound l) (n - 1 - 1) P (ownPostG w.heap.size Kp I Ix (pre ++ [x]) W) (upd a x B) W)
    (hdone : ∀ (D : Nat) (xs : List α) (W : World), w.heap.size ≤ D → S xs → I xs W → W.heap[D]? = some (.deferred (some [])) → Q .normal { a with defers := { target := .collected D, args := #[] } :: a.defers } W)
    (hstop : ∀ (D : Nat) (c : Code) (pre : List α) (W : World), w.heap.size ≤ D → Sp pre → Ix c pre W → W.heap[D]? = some (.deferred (some [])) → c.wpIn F n P Q { a with defers := { target := .collected D, args := #[] } :: a.defers } W) :
    (Code.rangeFunc g ps assign body).wpIn F n P Q a w :=
  wpIn_rangeFunc_ownH hro h1 hg hFg eg hseq hKt hKb hb0 hps I Ix hI hIx h0 (fun x a' W => ∃ B, G x B W ∧ a' = upd a x B)
    (fun x a' s X Y row hs hg hr => by obtain ⟨B, h2, h3⟩ := hs; exact ⟨B, hG x B () X Y row h2 hg hr, h3⟩)
    (fun l pre x W K hi hK => hassign l pre x W K hi fun B W' hk hkp hi' hg' => hK _ _ hk hkp hi' ⟨B, hg', rfl⟩)
    (fun l pre x a' W _ _ hi ⟨B, hg', he⟩ hlen => by subst he; exact hbody l pre x B W hi hg' hlen)
    hdone hstop

theorem boxed2_own (x : Value) (y : Value) (t : TypeId) (B : Nat) (C : Nat) : OwnFrom C (fun (_ : Unit) W => Boxed2 W B t x y) := fun s X Y row hs hg hrow =>
  hs.kept hg (fun e' => by obtain ⟨_, o, ho, hc⟩ := hrow B e'.symm; rw [show X.heap[B]? = _ from hs] at ho; cases ho; cases hc)

/-- What lies in Check's variables between two rounds. -/
structure Mid (w : World) (B0 n s4 s : Nat) (x y z : Int) (W : World) : Prop where
  r4 : Boxed W (n + 1) 3 (.int .i64 x)
  r5 : Boxed W (n + 1 + 1) 3 (.int .i64 y)
  r6 : Boxed W (n + 1 + 1 + 1) 3 (.int .i64 z)
  rs : Boxed W s4 3 (.int .i64 s)
  bel : Below w.heap.size w W
  size : B0 ≤ W.heap.size

theorem Mid.own {w : World} {B0 n s4 s : Nat} {x y z : Int} {B : Nat} (hB : w.heap.size ≤ B) : OwnFrom B (fun (_ : List Nat) W => Mid w B0 n s4 s x y z W) := fun _ X Y row h hg hr =>
  ⟨(boxed_own _ _ (fun (_ : Unit) => Value.int .i64 x)).from B () X Y row h.r4 hg hr, (boxed_own _ _ (fun (_ : Unit) => Value.int .i64 y)).from B () X Y row h.r5 hg hr, (boxed_own _ _ (fun (_ : Unit) => Value.int .i64 z)).from B () X Y row h.r6 hg hr,
    (boxed_own _ _ (fun (_ : Unit) => Value.int .i64 s)).from B () X Y row h.rs hg hr, ownFrom_below (β := Unit) (Nat.le_refl _) hB () X Y row h.bel hg hr, Nat.le_trans h.size hg.size⟩

theorem Mid.alloc {w : World} {B0 n s4 s : Nat} {x y z : Int} {W : World} (h : Mid w B0 n s4 s x y z W) (o : Obj) : Mid w B0 n s4 s x y z (W.alloc o) :=
  ⟨h.r4.alloc _, h.r5.alloc _, h.r6.alloc _, h.rs.alloc _, h.bel.alloc h.bel.size _, by have := h.size; simp; omega⟩
theorem Mid.sets {w : World} {B0 s4 s : Nat} {x y z : Int} {W : World} (h : Mid w B0 w.heap.size s4 s x y z W) (h4 : w.heap.size + 1 + 1 + 1 < s4) (x' y' z' : Int) :
    Mid w B0 w.heap.size s4 s x' y' z' (((W.setCell ⟨w.heap.size + 1, 0, none⟩ (.int .i64 x')).setCell ⟨w.heap.size + 1 + 1, 0, none⟩ (.int .i64 y')).setCell ⟨w.heap.size + 1 + 1 + 1, 0, none⟩ (.int .i64 z')) :=
  ⟨((h.r4.set _).other (by omega) _).other (by omega) _, ((h.r5.other (by omega) _).set _).other (by omega) _, ((h.r6.other (by omega) _).other (by omega) _).set _,
    ((h.rs.other (by omega) _).other (by omega) _).other (by omega) _, ((h.bel.setCell (Nat.le_succ _) _).setCell (by simp; omega) _).setCell (by simp; omega) _,
    by have := h.size; simpa using this⟩
theorem Mid.put {w : World} {B0 n s4 s : Nat} {x y z : Int} {W : World} (h : Mid w B0 n s4 s x y z W) {D : Nat} {o o' : Obj} (hK : W.heap[D]? = some o) (hD : w.heap.size ≤ D) (ho : o.isCells = false := by rfl) : Mid w B0 n s4 s x y z (W.putObj D o') :=
  Mid.own (Nat.le_refl _) [] W _ (some D) h (grownBy_putObj' W D o') (fun r e => by cases e; exact ⟨hD, o, hK, ho⟩)
theorem Mid.drew {w : World} {B0 n s4 s : Nat} {x y z : Int} {W : World} (h : Mid w B0 n s4 s x y z W) : Mid w B0 n s4 s x y z W.drew := ⟨h.r4, h.r5, h.r6, h.rs, h.bel.drew, h.size⟩

/-- What the search finds. -/
def fnd (s : Nat) : Int × Int × Int := match findP s with
  | some i => (1, ((i / 40 : Nat) : Int), ((i % 40 : Nat) : Int))
  | none => (2, 0, 0)

set_option maxRecDepth 100000 in
set_option maxHeartbeats 2000000 in
/-- Check at a valid line, where the search is needed. -/
theorem check_find (l : W8) (n : Nat) (w : World) (hv : validB l n = true) (hT : TabIn w) (ho : oddC l n = true) (h0 : synC l n ≠ 0) (hpw : synC l n &&& (synC l n - 1) ≠ 0) :
    Calls Tryz.prog 77 #[(.agg #[.int .i64 l.a0, .int .i64 l.a1, .int .i64 l.a2, .int .i64 l.a3, .int .i64 l.a4, .int .i64 l.a5, .int .i64 l.a6, .int .i64 l.a7]), .int .i64 n] w (RetB (.tuple #[.int .i64 (fnd (synC l n)).1, .int .i64 (fnd (synC l n)).2.1, .int .i64 (fnd (synC l n)).2.2]) w) := by
  have hn : n < 1024 := by have := (validB_iff.1 hv).2; omega
  have hval := fun W => valid_l l n W
  have hv0 : validB l 0 = true := validB_yes (validB_iff.1 hv).1 (by omega) (by omega)
  have hsum := fun W hT => sum_l l W hv0 hT
  have Hn := Lib.hid (Chk.new w l)
  have hbel := Chk.bel w l
  rw [hv] at hval
  clear hv hv0
  have hones := fun W => ones_any n (by omega) W
  have hs512 := syn_lt l
  have hc320 := cnt_le l
  have hp := pop_le 40 n
  have hand := code_and n hn
  have hxor := synC_xor l n
  have hx512 := synC_lt l n
  have hodd := oddC_is l n
  rw [ho] at hodd
  clear ho
  have HT := Lib.hid hT
  have Hsum := Lib.hid hsum
  clear hT hsum
  generalize synC l n = s at *
  have hs0 : ((s : Int) == 0) = false := by rw [beq_eq_false_iff_ne]; omega
  have hpa := and_i64 s (s - 1) (by omega) (by omega)
  rw [show ((s - 1 : Nat) : Int) = (s : Int) - 1 from by omega] at hpa
  have hp0 : (((s &&& (s - 1) : Nat) : Int) == 0) = false := by rw [beq_eq_false_iff_ne]; omega
  generalize s &&& (s - 1) = z at *
  refine (callsIn_wide (n := 5)).1 ?_
  refine callsIn_of_wp_marks Tryz.func77 rfl trivial ?_ rfl
  simp only [Tryz.ntmps77, List.size_toArray, List.length_cons, List.length_nil, Nat.reduceAdd, Nat.reduceSub, Array.replicate_succ, Array.replicate_zero, List.push_toArray, List.append_toArray, List.nil_append, List.cons_append]
  gi_wp2_with fail
  generalize (((w.alloc (.cells #[.int .i64 l.a0, .int .i64 l.a1, .int .i64 l.a2, .int .i64 l.a3, .int .i64 l.a4, .int .i64 l.a5, .int .i64 l.a6, .int .i64 l.a7] 80)).alloc (.cells #[.int .i64 0] 3)).alloc (.cells #[.int .i64 0] 3)).alloc (.cells #[.int .i64 0] 3) = W at *
  refine ⟨trivial, (callsIn_wide.2 (hval _)).mono ?_⟩
  rintro e w1 ⟨rfl, hb1⟩
  have H1 := Lib.hid (Hn.out.under hb1)
  have hbel1 := hbel.trans (hb1.mono hbel.size)
  clear hb1
  obtain ⟨c0, c1, c2, c3, c4, c5, c6, c7⟩ := H1.out.box.all
  have hblt := H1.out.box.lt
  gi_wp2_with fail
  refine ⟨trivial, (callsIn_wide.2 (Hsum.out _ (HT.out.below hbel1))).mono ?_⟩
  rintro e w2 ⟨rfl, hb2⟩
  have H2 := Lib.hid (H1.out.under hb2)
  have hbel2 := hbel1.trans (hb2.mono hbel1.size)
  clear hb2 c0 c1 c2 c3 c4 c5 c6 c7 hblt
  have l4 := H2.out.r4.lt
  have l5 := H2.out.r5.lt
  have l6 := H2.out.r6.lt
  gi_wp2_with fail
  refine ⟨trivial, (callsIn_wide.2 (hones _)).mono ?_⟩
  rintro e w' ⟨rfl, rfl⟩
  gi_wp2_with fail
  have Hm : Hid (Mid w (w2.alloc (.cells #[.int .i64 s] 3)).heap.size w.heap.size w2.heap.size s 0 0 0 (w2.alloc (.cells #[.int .i64 s] 3))) := Lib.hid ⟨H2.out.r4.alloc _, H2.out.r5.alloc _, H2.out.r6.alloc _, Boxed.new _ _ _, hbel2.alloc hbel2.size _, Nat.le_refl _⟩
  have hs4 : w2.heap.size < (w2.alloc (.cells #[.int .i64 s] 3)).heap.size := by simp
  generalize w2.alloc (.cells #[.int .i64 s] 3) = W0 at *
  generalize w2.heap.size = s4 at *
  refine ⟨trivial, (callsIn_wide.2 (positions_any _)).mono ?_⟩
  rintro e w' ⟨rfl, rfl⟩
  gi_wp2_with fail
  have hbW := Hm.out.bel.size
  refine range_box rfl (by decide) (gf := 119) (lb := #[]) rfl trivial (enters_of Tryz.func119 (by kernel_rfl) rfl) (posns_stops Fence.wide _ trivial rfl (by decide) W0) belowK_t (belowK_b (Nat.le_refl _)) (Below.refl _ _) (fun _ => rfl)
    (fun pre W => (∀ x, x ∈ pre → posn x ≠ s) ∧ Mid w W0.heap.size w.heap.size s4 s 0 0 0 W)
    (fun c pre W => (c = .ret ∧ ∃ i, i ∈ pre ∧ posn i = s ∧ Mid w W0.heap.size w.heap.size s4 s 1 ((i : Int) / 40) ((i : Int) % 40) W))
    (OwnFrom.and (ownFrom_pure _ _) (Mid.own hbW))
    (fun c u X Y row hs hg hr => by obtain ⟨hc, i, hi, hp, hm⟩ := hs; exact ⟨hc, i, hi, hp, Mid.own hbW [] X Y row hm hg hr⟩)
    ⟨fun x h => (by cases h), Hm.out⟩
    (fun i B W => W0.heap.size ≤ B ∧ Boxed2 W B 155 (.int .i64 ((i : Int) / 40)) (.int .i64 ((i : Int) % 40)))
    (fun x B u X Y row hs hg hr => ⟨hs.1, boxed2_own _ _ _ _ _ u X Y row hs.2 hg hr⟩)
    (fun a i B => { tmps := (((a.tmps.setIfInBounds 55 (.agg #[.int .i64 ((i : Int) / 40), .int .i64 ((i : Int) % 40)])).setIfInBounds 56 (.int .i64 (posn i : Nat))).setIfInBounds 10 (.pointer (some ⟨B, 0, none⟩))).setIfInBounds 11 (.int .i64 (posn i : Nat)), defers := [] })
    ?assign ?body ?done ?stop
  case assign =>
    rintro l pre x W K ⟨hpre, hm⟩ hK
    gi_wp2
    exact hK W.heap.size _ ((KeepsOthers.alloc _ _).from _) ((Below.refl _ W).alloc hm.size _) ⟨hpre, hm.alloc _⟩ ⟨hm.size, Boxed2.new _ _ _ _⟩
  case body =>
    rintro lp pre x B W ⟨hpre, hm⟩ ⟨hB, hbx⟩ _
    have c4 := hm.r4.cell
    have c5 := hm.r5.cell
    have c6 := hm.r6.cell
    have f4 := hm.r4.frozen
    have f5 := hm.r5.frozen
    have f6 := hm.r6.frozen
    have cs4 := hm.rs.cell
    have p0 := hbx.cell0
    have p1 := hbx.cell1
    have Hpre : Hid (∀ x, x ∈ pre → posn x ≠ s) := hpre
    clear hpre
    by_cases hps : posn x = s
    · have Hps := Lib.hid hps
      have hpb : (((posn x : Nat) : Int) == (s : Int)) = true := by rw [beq_iff_eq]; omega
      clear hps
      simp only [List.setIfInBounds_toArray, List.set_cons_succ, List.set_cons_zero]
      have hmix : Tryz.prog.follows .mixedOrders = true := by kernel_rfl
      have hs := hm.sets l6 1 ((x : Int) / 40) ((x : Int) % 40)
      gi_wp2
      gi_region_with_o (fail)
      all_goals gi_wp2
      all_goals exact ⟨((((KeepsOthers.setCell _ _ _).trans (KeepsOthers.setCell _ _ _)).trans (KeepsOthers.setCell _ _ _)).trans (KeepsOthers.drew _)).from _, rfl, x, List.mem_append_right _ (List.mem_singleton_self x), Hps.out, hs.drew⟩
    · have hpb : (((posn x : Nat) : Int) == (s : Int)) = false := by rw [beq_eq_false_iff_ne]; omega
      have Hps := Lib.hid hps
      clear hps
      simp only [List.setIfInBounds_toArray, List.set_cons_succ, List.set_cons_zero]
      gi_wp2
      exact ⟨KeepsFrom.refl _ _, Below.refl _ _, fun y hy => by
        rcases List.mem_append.1 hy with h | h
        · exact Hpre.out y h
        · rw [List.mem_singleton] at h; subst h; exact Hps.out, hm⟩
  case done =>
    rintro D xs W hD rfl ⟨hpre, hm⟩ hK
    have c4 := hm.r4.cell
    have c5 := hm.r5.cell
    have c6 := hm.r6.cell
    have f4 := hm.r4.frozen
    have f5 := hm.r5.frozen
    have f6 := hm.r6.frozen
    have Hpre : Hid (∀ x, x ∈ List.range 320 → posn x ≠ s) := hpre
    clear hpre
    have hs := hm.sets l6 2 0 0
    have hK2 := (((KeepsOthers.setCell W ⟨w.heap.size + 1, 0, none⟩ (.int .i64 2)).trans (KeepsOthers.setCell _ ⟨w.heap.size + 1 + 1, 0, none⟩ (.int .i64 0))).trans (KeepsOthers.setCell _ ⟨w.heap.size + 1 + 1 + 1, 0, none⟩ (.int .i64 0))).same D _ hK rfl
    gi_wp2
    generalize ((W.setCell ⟨w.heap.size + 1, 0, none⟩ (.int .i64 2)).setCell ⟨w.heap.size + 1 + 1, 0, none⟩ (.int .i64 0)).setCell ⟨w.heap.size + 1 + 1 + 1, 0, none⟩ (.int .i64 0) = W9 at *
    refine ⟨by simp, .inl ⟨_, _, rfl, run_takeDeferred hK2, ?_⟩⟩
    have hp := hs.put (o' := .deferred none) hK2 (by omega)
    have d4 := hp.r4.cell
    have d5 := hp.r5.cell
    have d6 := hp.r6.cell
    have hf : fnd s = (2, 0, 0) := by
      unfold fnd
      rw [findP_none fun i hi => Hpre.out i (List.mem_range.2 hi)]
    refine ⟨.tuple #[.int .i64 2, .int .i64 0, .int .i64 0], ?_, ?_⟩
    · simp [results, Tryz.results77, go_sem, d4, d5, d6]
    · rw [hf]; exact ⟨rfl, hp.bel⟩
  case stop =>
    rintro D c pre W hD ⟨m, hm, rfl⟩ ⟨rfl, i, hi, hpi, hmid⟩ hK
    gi_wp2
    refine ⟨by simp, .inl ⟨_, _, rfl, run_takeDeferred hK, ?_⟩⟩
    have hp := hmid.put (o' := .deferred none) hK (by omega)
    have d4 := hp.r4.cell
    have d5 := hp.r5.cell
    have d6 := hp.r6.cell
    have hf : fnd s = (1, ((i / 40 : Nat) : Int), ((i % 40 : Nat) : Int)) := by
      unfold fnd
      rw [findP_some (by have := List.mem_range.1 hi; omega) hpi]
    refine ⟨.tuple #[.int .i64 1, .int .i64 ((i : Int) / 40), .int .i64 ((i : Int) % 40)], ?_, ?_⟩
    · simp [results, Tryz.results77, go_sem, d4, d5, d6]
    · rw [hf]; exact ⟨by simp, hp.bel⟩

end Go.Proofs.YtlolaieolgmdnaaGreatDoor
