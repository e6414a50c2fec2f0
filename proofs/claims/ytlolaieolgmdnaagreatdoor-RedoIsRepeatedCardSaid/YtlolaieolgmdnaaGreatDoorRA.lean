/-
  The specification's memory (layer 4), as a thing owned or lent; State, Shows, Load.
-/
import Derived.Test.YtlolaieolgmdnaaGreatDoorMD
import Derived.Test.YtlolaieolgmdnaaGreatDoorSh2
namespace Go.Proofs.YtlolaieolgmdnaaGreatDoor
open Go.RowKit
set_option linter.unusedVariables false
set_option linter.unusedSimpArgs false
set_option maxRecDepth 10000

def RMemH (r : Nat) (M : MemS) : HProp := fun h => ∃ lv ps ev, ps.length = M.L.length ∧
  stars [blk r [lv, .int .i64 M.span, ev] 33, ownS 91 11 lv M.L.length (((M.L.zip ps).map lnC).flatten),
    ownS 111 12 ev M.ev.length ((M.ev.map evC).flatten), big ((M.L.zip ps).map pendH)] h

section
variable {c : Cx} {Γ : List HProp} {w : World} {r : Nat} {M : MemS} {lv ev : Value} {ps : List Value}

theorem Sat.openRM (H : Sat c (RMemH r M :: Γ) w) : ∃ lv ps ev, ps.length = M.L.length ∧
    Sat c (blk r [lv, .int .i64 M.span, ev] 33 :: ownS 91 11 lv M.L.length (((M.L.zip ps).map lnC).flatten) ::
      ownS 111 12 ev M.ev.length ((M.ev.map evC).flatten) :: big ((M.L.zip ps).map pendH) :: Γ) w := by
  obtain ⟨f, g, s, ⟨lv, ps, ev, h1, h3⟩, hr⟩ := H.own
  exact ⟨lv, ps, ev, h1, { H with own := stars_join (Γ := [_, _, _, _]) s h3 hr }⟩

theorem Sat.shutRM (h1 : ps.length = M.L.length)
    (H : Sat c (blk r [lv, .int .i64 M.span, ev] 33 :: ownS 91 11 lv M.L.length (((M.L.zip ps).map lnC).flatten) ::
      ownS 111 12 ev M.ev.length ((M.ev.map evC).flatten) :: big ((M.L.zip ps).map pendH) :: Γ) w) : Sat c (RMemH r M :: Γ) w :=
  Sat.shut (Δ := [_, _, _, _]) H fun h hs => ⟨lv, ps, ev, h1, hs⟩

structure RMemR (c : Cx) (r : Nat) (M : MemS) (lv : Value) (ps : List Value) (ev : Value) : Prop where
  len : ps.length = M.L.length
  top : At c (blk r [lv, .int .i64 M.span, ev] 33)
  lines : At c (ownS 91 11 lv M.L.length (((M.L.zip ps).map lnC).flatten))
  evs : At c (ownS 111 12 ev M.ev.length ((M.ev.map evC).flatten))
  pend : ∀ y ∈ M.L.zip ps, At c (pendH y)

theorem At.rmem (h : At c (RMemH r M)) : ∃ lv ps ev, RMemR c r M lv ps ev := by
  obtain ⟨f, ⟨lv, ps, ev, h1, h3⟩, hs⟩ := h
  have hA : At c (big [blk r [lv, .int .i64 M.span, ev] 33, ownS 91 11 lv M.L.length (((M.L.zip ps).map lnC).flatten),
    ownS 111 12 ev M.ev.length ((M.ev.map evC).flatten), big ((M.L.zip ps).map pendH)]) := ⟨f, h3, hs⟩
  have hq := At.open (Δ := [_, _, _, _]) hA fun _ h => h
  refine ⟨lv, ps, ev, h1, hq _ (by simp), hq _ (by simp), hq _ (by simp), ?_⟩
  have hp := At.open (Δ := (M.L.zip ps).map pendH) (hq (big ((M.L.zip ps).map pendH)) (by simp)) fun _ h => h
  intro y hy
  exact hp _ (List.mem_map.2 ⟨y, hy, rfl⟩)

theorem RMemR.sl (R : RMemR c r M lv ps ev) (H : Sat c Γ w) : ∃ a cap, lv = .slice a M.L.length cap ∧ M.L.length ≤ cap ∧ (a = none → M.L.length = 0) ∧
    ∀ b o sp, a = some ⟨b, o, sp⟩ → M.L.length = 0 ∨ (sp = none ∧ cellsAt w b o (((M.L.zip ps).map lnC).flatten)) := R.lines.slR H

theorem RMemR.line {n : Nat} {y : LineS} (R : RMemR c r M lv ps ev) (H : Sat c Γ w) (hy : M.L[n]? = some y) : ∃ b o cap p, lv = .slice (some ⟨b, o, none⟩) M.L.length cap ∧ M.L.length ≤ cap ∧ ps[n]? = some p ∧ At c (pendH (y, p)) ∧ LineR c b (o + n * 11) y p := by
  have hlt : n < M.L.length := (List.getElem?_eq_some_iff.1 hy).1
  obtain ⟨p, hp⟩ : ∃ p, ps[n]? = some p := ⟨ps[n]'(by rw [R.len]; exact hlt), List.getElem?_eq_getElem _⟩
  have hz : (M.L.zip ps)[n]? = some (y, p) := by rw [List.getElem?_zip_eq_some]; exact ⟨hy, hp⟩
  obtain ⟨a, cap, rfl, hle, hn, hc⟩ := R.sl H
  obtain ⟨⟨b, o, sp⟩, rfl⟩ : ∃ x, a = some x := by
    cases a with
    | none => exact absurd (hn rfl) (by omega)
    | some x => exact ⟨x, rfl⟩
  rcases hc b o sp rfl with h | ⟨rfl, -⟩
  · omega
  refine ⟨b, o, cap, p, rfl, hle, hp, R.pend _ (List.mem_of_getElem? hz), ?_⟩
  intro Γ' w' H' j v hj
  obtain ⟨a', cap', e, -, -, hc'⟩ := R.sl H'
  cases e
  rcases hc' b o none rfl with h | ⟨-, h⟩
  · omega
  have hj11 : j < 11 := by
    have := (List.getElem?_eq_some_iff.1 hj).1
    rwa [lnC_len] at this
  rw [Nat.add_assoc]
  exact h _ _ (by rw [rows_cell lnC 11 lnC_len _ n _ hz j hj11]; exact hj)

theorem rhas_sp (k : Int) (R : RMemR c r M lv ps ev) (H : Sat c Γ w) :
    Calls Tryz.prog 89 #[.pointer (some ⟨r, 0, none⟩), .int .i64 k] w (Rt (Yes c Γ (.bool (decide (0 ≤ k ∧ k < M.L.length))))) := by
  obtain ⟨a, cap, rfl, -⟩ := R.sl H
  have h1 := R.top
  refine alumref04_Memory_has_ok ?_
  unfold alumref04_Memory_has_w
  (with_reducible (repeat (first | refine pu_st ?_ | refine bn_st ?_)))
  refine condD (fun h0 => ?_) (fun h0 => ?_)
  · (with_reducible (repeat (first | refine pu_st ?_ | refine bn_st ?_)))
    (refine bn_load1 (At.cell h1 H rfl) ?_; (with_reducible (repeat (first | refine pu_st ?_ | refine bn_st ?_))))
    exact ⟨by simp [h0], H⟩
  · exact ⟨by simp [h0], H⟩

theorem rCheck_sp (l : W8) (k : Int) (hT : TabC c) (H : Sat c Γ w) :
    Calls Tryz.prog 93 #[.agg (w8C l).toArray, .int .i64 k] w (Rt (Yes c Γ (.tuple #[.int .i64 (chk l k).1, .int .i64 (chk l k).2.1, .int .i64 (chk l k).2.2]))) := by
  refine alumref03_Check_ok ?_
  unfold alumref03_Check_w
  refine bn_box (z := w8C l) rfl H fun b w H => ?_
  refine bn_loadN (H.cells0 Has.n0) rfl ?_
  refine Cl.of (by kernel_rfl) (of_RetB H (rChecked_any l k w)) ?_
  rintro _ w ⟨rfl, H⟩
  refine bn_alloc H fun b2 w H => ?_
  refine bn_storeN (vs := [.int .i64 (chk l k).1, .int .i64 (chk l k).2.1, .int .i64 (chk l k).2.2]) H Has.n0 rfl (by simp) (by simp [Value.oneCell']) fun w H => ?_
  (refine ⟨Sat _ _, Sat _ _, Sat.drew H, fun _ h => h, ?_⟩; (with_reducible (repeat (first | refine pu_st ?_ | refine bn_st ?_))))
  (refine ⟨_, fun w H => run_load1 (H.cell Has.n0 rfl), ?_⟩; (with_reducible (repeat (first | refine pu_st ?_ | refine bn_st ?_))))
  (refine ⟨_, fun w H => run_load1 (H.cell Has.n0 rfl), ?_⟩; (with_reducible (repeat (first | refine pu_st ?_ | refine bn_st ?_))))
  (refine ⟨_, fun w H => run_load1 (H.cell Has.n0 rfl), ?_⟩; (with_reducible (repeat (first | refine pu_st ?_ | refine bn_st ?_))))
  (intro w H; (with_reducible (repeat (first | refine pu_st ?_ | refine bn_st ?_))))
  exact ⟨rfl, H.tail.tail⟩

theorem rState_sp (k : Int) (R : RMemR c r M lv ps ev) (hT : TabC c) (H : Sat c Γ w) :
    Calls Tryz.prog 64 #[.pointer (some ⟨r, 0, none⟩), .int .i64 k] w (Rt (Yes c Γ (.int .i64 (stateM M.L k)))) := by
  have h1 := R.top
  refine alumref04_Memory_State_ok ?_
  unfold alumref04_Memory_State_w
  refine Cl.of alumref04_Memory_has_en (rhas_sp k R H) ?_
  rintro _ w ⟨rfl, H⟩
  (with_reducible (repeat (first | refine pu_st ?_ | refine bn_st ?_)))
  refine condND (fun hk => ?_) (fun hk => ?_)
  · refine ⟨?_, H⟩
    unfold stateM
    split
    · rename_i h0
      rw [List.getElem?_eq_none (by omega)]
    · rfl
  · obtain ⟨n, rfl⟩ : ∃ n : Nat, k = n := ⟨k.toNat, by omega⟩
    obtain ⟨y, hy⟩ : ∃ y, M.L[n]? = some y := ⟨M.L[n]'(by omega), List.getElem?_eq_getElem _⟩
    obtain ⟨b, o, cap, p, rfl, hle, hp, -, hl⟩ := R.line H hy
    have hlt : n < M.L.length := (List.getElem?_eq_some_iff.1 hy).1
    (refine ⟨Sat _ _, Sat _ _, Sat.drew H, fun _ h => h, ?_⟩; (with_reducible (repeat (first | refine pu_st ?_ | refine bn_st ?_))))
    (refine ⟨_, fun w H => run_load1 (At.cell h1 H rfl), ?_⟩; (with_reducible (repeat (first | refine pu_st ?_ | refine bn_st ?_))))
    refine pu_indexN hlt ?_
    (with_reducible (repeat (first | refine pu_st ?_ | refine bn_st ?_)))
    (refine ⟨_, fun w H => run_loadN rfl (hl.words H), ?_⟩; (with_reducible (repeat (first | refine pu_st ?_ | refine bn_st ?_))))
    (refine ⟨_, fun w H => run_load1 (At.cell h1 H rfl), ?_⟩; (with_reducible (repeat (first | refine pu_st ?_ | refine bn_st ?_))))
    refine pu_indexN hlt ?_
    (with_reducible (repeat (first | refine pu_st ?_ | refine bn_st ?_)))
    (refine ⟨_, fun w H => run_load1 (hl.code H), ?_⟩; (with_reducible (repeat (first | refine pu_st ?_ | refine bn_st ?_))))
    (refine ⟨fun w H => ?_, trivial⟩; (with_reducible (repeat (first | refine pu_st ?_ | refine bn_st ?_))))
    refine Cl.of alumref03_Check_en (rCheck_sp y.x y.c hT H) ?_
    rintro _ w ⟨rfl, H⟩
    (refine ⟨Sat _ _, Sat _ _, H, fun _ h => h, (by first | trivial | exact fun _ h => h | exact fun _ h => h.tail | exact fun _ h => h.tail.tail), ?_⟩; (with_reducible (repeat (first | refine pu_st ?_ | refine bn_st ?_))))
    (intro w H; (with_reducible (repeat (first | refine pu_st ?_ | refine bn_st ?_))))
    refine ⟨?_, H⟩
    unfold stateM
    rw [if_pos (by omega), Int.toNat_natCast, hy]

theorem rShows_sp {n : Nat} {y : LineS} (hy : M.L[n]? = some y) (hyok : y.ok) (R : RMemR c r M lv ps ev) (hT : TabC c) (H : Sat c Γ w) :
    Calls Tryz.prog 74 #[.pointer (some ⟨r, 0, none⟩), .int .i64 (n : Int)] w (Rt (Yes c Γ (.agg (w8C (seenW y)).toArray))) := by
  have h1 := R.top
  have hlt : n < M.L.length := (List.getElem?_eq_some_iff.1 hy).1
  refine alumref04_Memory_Shows_ok ?_
  unfold alumref04_Memory_Shows_w
  obtain ⟨b, o, cap, p, rfl, hle, hp, hpe, hl⟩ := R.line H hy
  have hpo := pend_one hpe H
  have hsl : SlR c p y.p.length ((y.p.map stC).flatten) := hpe.slR
  have hfew := hyok.few
  obtain ⟨a1, cap1, rfl, hle1, hn1, -⟩ := hsl H
  refine bn_alloc H fun b4 w H => ?_
  (with_reducible (repeat (first | refine pu_st ?_ | refine bn_st ?_)))
  (refine bn_load1 (At.cell h1 H rfl) ?_; (with_reducible (repeat (first | refine pu_st ?_ | refine bn_st ?_))))
  refine pu_indexN hlt ?_
  refine bn_loadN (hl.all H) rfl ?_
  refine bn_alloc H fun b5 w H => ?_
  refine bn_storeN (vs := lnC (y, .slice a1 y.p.length cap1)) H Has.n0 rfl (by simp [lnC]) (lnC_one hpo) fun w H => ?_
  replace H : Sat c (blk b5 (lnC (y, .slice a1 y.p.length cap1)) 91 :: blk b4 (w8C zer) 80 :: Γ) w := H
  (with_reducible (repeat (first | refine pu_st ?_ | refine bn_st ?_)))
  refine bn_loadN (vs := w8C y.x) (H.cells Has.n0 ?_) rfl ?_
  · intro j v hj
    rcases j with _ | _ | _ | _ | _ | _ | _ | _ | j <;> first | exact hj | (simp [w8C] at hj)
  (with_reducible (repeat (first | refine pu_st ?_ | refine bn_st ?_)))
  (refine bn_load1 (Sat.cell H Has.n0 rfl) ?_; (with_reducible (repeat (first | refine pu_st ?_ | refine bn_st ?_))))
  refine Cl.of (by kernel_rfl) (of_RetB H (rFix_any y.x y.c w)) ?_
  rintro _ w ⟨rfl, H⟩
  (with_reducible (repeat (first | refine pu_st ?_ | refine bn_st ?_)))
  refine bn_alloc H fun b6 w H => ?_
  generalize hf : fix y.x y.c = f
  refine bn_storeN (vs := w8C f.1) H Has.n0 rfl (by simp [w8C]) (w8C_one _) fun w H => ?_
  replace H : Sat c (blk b6 (w8C f.1) 80 :: blk b5 (lnC (y, .slice a1 y.p.length cap1)) 91 :: blk b4 (w8C zer) 80 :: Γ) w := H
  (with_reducible (repeat (first | refine pu_st ?_ | refine bn_st ?_)))
  refine condND (fun he => ?_) (fun he => ?_)
  · refine pu_build0 ?_
    refine bn_storeN (vs := w8C zer) H Has.n2 rfl (by simp [w8C]) (w8C_one _) fun w H => ?_
    refine ⟨_, run_loadN (vs := w8C zer) rfl (H.cells0 Has.n0), ?_, H.tail.tail.tail⟩
    unfold seenW showL; rw [hf, if_neg he]
  · refine ⟨fun v w => ∃ i : Nat, i ≤ y.p.length ∧ v = .int .i64 (i : Int) ∧ Sat c (blk b6 (w8C (showW f.1 (y.p.take i))) 80 :: blk b5 (lnC (y, .slice a1 y.p.length cap1)) 91 :: blk b4 (w8C zer) 80 :: Γ) w, fun v _ => y.p.length - (intOf v).toNat, ⟨0, Nat.zero_le _, rfl, by simpa [showW] using H⟩, ?_⟩
    intros
    rename_i w hI
    obtain ⟨i, hi, rfl, H⟩ := hI
    (with_reducible (repeat (first | refine pu_st ?_ | refine bn_st ?_)))
    (refine bn_load1 (Sat.cell H Has.n1 rfl) ?_; (with_reducible (repeat (first | refine pu_st ?_ | refine bn_st ?_))))
    refine condD (fun hlt => ?_) (fun hlt => ?_)
    · have hlt : i < y.p.length := by omega
      obtain ⟨s, hs⟩ : ∃ s, y.p[i]? = some s := ⟨y.p[i]'(by omega), List.getElem?_eq_getElem _⟩
      obtain ⟨hs0, hs1⟩ := hyok.word s (List.mem_of_getElem? hs)
      obtain ⟨b1, o1, cap2, e, -, -⟩ := slAt.elem (enc := stC) stC_len (hsl H) hs
      cases e
      have hcell : ∀ {Γ : List HProp} {w : World}, Sat c Γ w → cellsAt w b1 (o1 + i * 2) (stC s) := fun H => by
        obtain ⟨b', o', cap', e, -, hc⟩ := slAt.elem (enc := stC) stC_len (hsl H) hs
        cases e; exact hc
      (refine ⟨Sat _ _, Sat _ _, Sat.drew H, fun _ h => h, ?_⟩; (with_reducible (repeat (first | refine pu_st ?_ | refine bn_st ?_))))
      (refine ⟨_, fun w H => run_load1 (H.cell Has.n1 rfl), ?_⟩; (with_reducible (repeat (first | refine pu_st ?_ | refine bn_st ?_))))
      refine pu_indexN hlt ?_
      (with_reducible (repeat (first | refine pu_st ?_ | refine bn_st ?_)))
      (refine ⟨_, fun w H => run_load1 (hcell H 0 _ rfl), ?_⟩; (with_reducible (repeat (first | refine pu_st ?_ | refine bn_st ?_))))
      (refine ⟨_, fun w H => run_load1 (H.cell Has.n1 rfl), ?_⟩; (with_reducible (repeat (first | refine pu_st ?_ | refine bn_st ?_))))
      refine pu_indexN hlt ?_
      (with_reducible (repeat (first | refine pu_st ?_ | refine bn_st ?_)))
      (refine ⟨_, fun w H => run_load1 (hcell H 1 _ rfl), ?_⟩; (with_reducible (repeat (first | refine pu_st ?_ | refine bn_st ?_))))
      refine pu_indexA hs0 (by omega) ?_
      (refine ⟨fun w H => ?_, trivial⟩; (with_reducible (repeat (first | refine pu_st ?_ | refine bn_st ?_))))
      refine bn_store1 H Has.n0 (by simp [w8C]; omega) rfl fun w H => ?_
      (refine ⟨Sat _ _, Sat _ _, H, fun _ h => h, (by first | trivial | exact fun _ h => h | exact fun _ h => h.tail | exact fun _ h => h.tail.tail), ?_⟩; (with_reducible (repeat (first | refine pu_st ?_ | refine bn_st ?_))))
      (intro w H; (with_reducible (repeat (first | refine pu_st ?_ | refine bn_st ?_))))
      refine pu_succ (by omega) ?_
      refine ⟨⟨i + 1, by omega, rfl, ?_⟩, by simp [intOf]; omega⟩
      rw [take_succ_of hs, showW_snoc, ← w8C_set _ _ _ (by omega)]
      simpa using H
    · have : i = y.p.length := by omega
      subst this
      refine bn_loadN (H.cells0 Has.n0) rfl ?_
      refine bn_storeN (vs := w8C (showW f.1 (y.p.take y.p.length))) H Has.n2 rfl (by simp [w8C]) (w8C_one _) fun w H => ?_
      refine ⟨_, run_loadN (vs := w8C (showW f.1 (y.p.take y.p.length))) rfl (H.cells0 Has.n0), ?_, H.tail.tail.tail⟩
      unfold seenW showL; rw [hf, if_pos he, List.take_length]

theorem fix_chk (l : W8) (k : Int) : (fix l k).2.2 = 0 ↔ (chk l k).1 ≠ 2 := by
  unfold fix
  split
  · rcases chk_state l k with h | h | h <;> rw [h] <;> simp
  · rename_i hv
    unfold chk; rw [if_neg hv]; simp

theorem showL_ok (l : W8) (k : Int) (S : List St) : (showL l k S).2 = 0 ↔ (chk l k).1 ≠ 2 := by
  rw [← fix_chk]
  unfold showL
  split
  · rename_i h; simp [h]
  · rename_i h; simp [h]

theorem rLoad_sp (at' : Int) (hat : i64 at') (hok : M.ok) (R : RMemR c r M lv ps ev) (hT : TabC c) (H : Sat c Γ w) :
    Calls Tryz.prog 53 #[.pointer (some ⟨r, 0, none⟩), .int .i64 at'] w (Rt (Yes c Γ (.tuple #[.int .i64 (loadM M.L at').1, .int .i64 (loadM M.L at').2]))) := by
  refine alumref04_Memory_Load_ok ?_
  unfold alumref04_Memory_Load_w
  (with_reducible (repeat (first | refine pu_st ?_ | refine bn_st ?_)))
  refine condD (fun h0 => ?_) (fun h0 => ?_)
  · refine ⟨?_, H⟩
    unfold loadM; rw [if_pos h0]
  obtain ⟨n, rfl⟩ : ∃ n : Nat, at' = n := ⟨at'.toNat, by omega⟩
  refine pu_quo (by omega) (tdiv_i64 hat) ?_
  rw [tdiv_nat]
  refine Cl.of alumref04_Memory_has_en (rhas_sp _ R H) ?_
  rintro _ w ⟨rfl, H⟩
  (with_reducible (repeat (first | refine pu_st ?_ | refine bn_st ?_)))
  refine condND (fun hk => ?_) (fun hk => ?_)
  · refine ⟨?_, H⟩
    unfold loadM
    rw [if_neg h0, List.getElem?_eq_none (by omega)]
  · obtain ⟨y, hy⟩ : ∃ y, M.L[n / 8]? = some y := ⟨M.L[n / 8]'(by omega), List.getElem?_eq_getElem _⟩
    have hyok := hok.line y (List.mem_of_getElem? hy)
    refine pu_quo (by omega) (tdiv_i64 hat) ?_
    rw [tdiv_nat]
    refine Cl.of alumref04_Memory_State_en (rState_sp _ R hT H) ?_
    rintro _ w ⟨rfl, H⟩
    have hst : stateM M.L ((n / 8 : Nat) : Int) = (chk y.x y.c).1 := by
      unfold stateM; rw [if_pos (by omega), Int.toNat_natCast, hy]
    rw [hst]
    (with_reducible (repeat (first | refine pu_st ?_ | refine bn_st ?_)))
    have hso := showL_ok y.x y.c y.p
    refine condD (fun he => ?_) (fun he => ?_)
    · refine ⟨?_, H⟩
      have : ¬ (showL y.x y.c y.p).2 = 0 := fun h => hso.1 h he
      unfold loadM
      rw [if_neg h0]
      simp only [Int.toNat_natCast, hy, this, if_false]
    · have : (showL y.x y.c y.p).2 = 0 := hso.2 he
      refine pu_quo (by omega) (tdiv_i64 hat) ?_
      rw [tdiv_nat]
      refine Cl.of alumref04_Memory_Shows_en (rShows_sp hy hyok R hT H) ?_
      rintro _ w ⟨rfl, H⟩
      refine bn_alloc H fun b7 w H => ?_
      refine bn_storeN (vs := w8C (seenW y)) H Has.n0 rfl (by simp [w8C]) (w8C_one _) fun w H => ?_
      refine pu_rem (by omega) ?_
      rw [tmod_nat]
      refine pu_indexA (by omega) (by omega) ?_
      refine bn_load1 (Sat.cell (cs := w8C (seenW y)) H Has.n0 (w8C_get _ _ (by omega))) ?_
      refine ⟨?_, H.tail⟩
      unfold loadM
      rw [if_neg h0]
      simp only [Int.toNat_natCast, hy, this, if_true, Nat.zero_add, Nat.mul_one, seenW]

end

end Go.Proofs.YtlolaieolgmdnaaGreatDoor
