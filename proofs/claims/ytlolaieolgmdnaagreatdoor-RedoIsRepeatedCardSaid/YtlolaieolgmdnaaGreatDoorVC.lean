/-
  The law's walk: RedoIsRepeated.
-/
import Derived.Test.YtlolaieolgmdnaaGreatDoorVS
import Derived.Test.YtlolaieolgmdnaaGreatDoorPlainQ
namespace Go.Proofs.YtlolaieolgmdnaaGreatDoor
open Go.RowKit
set_option linter.unusedVariables false
set_option linter.unusedSimpArgs false
set_option maxRecDepth 10000

section
variable {c : Cx} {Γ Δ Ω : List HProp} {w : World} {m r : Nat} {M : MemS} {lv ev : Value} {ps : List Value} {mb ck : Nat} {es : Array MapEntry} {E S : List En}

theorem least_sp (n k : Int) (h0 : 0 < k) (h1 : k ≤ 4000000000000) (H : Sat c Γ w) :
    Calls Tryz.prog 43 #[.int .i64 n, .int .i64 k] w (Rt (Yes c Γ (.int .i64 (leastI n k)))) := by
  refine alumlaw10_least_ok ?_
  unfold alumlaw10_least_w
  have a1 := Int.lt_tmod_of_pos n h0
  have a2 := Int.tmod_lt_of_pos n h0
  refine pu_rem (by omega) ?_
  refine pu_add (by unfold i64; omega) ?_
  refine pu_rem (by omega) ?_
  exact ⟨rfl, H⟩

theorem play_sp {u : Value} {l : List Ev} {N : Nat} (hN : M.okN N) (hb : N + l.length ≤ 1000000) (hk : ∀ e ∈ l, (e.k = 1 → i64 e.at') ∧ (e.k = 1 ∨ e.k = 3 ∨ e.k = 4)) (hu : SlR c u l.length ((l.map evC).flatten)) (hT : TabC c)
    (H : Sat c (MemH m M :: Γ) w) :
    Calls Tryz.prog 42 #[.pointer (some ⟨m, 0, none⟩), u] w (Rt fun _ w' => Sat c (MemH m (playM M l) :: Γ) w') := by
  refine alumlaw10_play_ok ?_
  unfold alumlaw10_play_w
  obtain ⟨ad, cap, hue, -⟩ := hu H
  subst hue
  (with_reducible (repeat (first | refine pu_st ?_ | refine bn_st ?_)))
  refine ⟨fun v w => ∃ i : Nat, i ≤ l.length ∧ v = .int .i64 (i : Int) ∧ Sat c (MemH m (playM M (l.take i)) :: Γ) w, fun v _ => l.length - (intOf v).toNat, ⟨0, Nat.zero_le _, rfl, H⟩, ?_⟩
  intros
  rename_i w hI
  obtain ⟨i, hi, rfl, H⟩ := hI
  (with_reducible (repeat (first | refine pu_st ?_ | refine bn_st ?_)))
  refine condD (fun hlt => ?_) (fun hlt => ?_)
  · have hlt : i < l.length := by omega
    obtain ⟨x, hx⟩ : ∃ x, l[i]? = some x := ⟨l[i]'(by omega), List.getElem?_eq_getElem _⟩
    obtain ⟨hk1, hk2⟩ := hk x (List.mem_of_getElem? hx)
    obtain ⟨b1, o1, cap1, e, -, hc⟩ := slAt.elem (enc := evC) evC_len (hu H) hx
    cases e
    have hok := (MemS.okN.play (l.take i) hN).ok (by rw [List.length_take]; omega)
    have hst : playM M (l.take (i + 1)) = stepP (playM M (l.take i)) x := by rw [take_succ_of hx, playM_snoc]
    refine pu_indexN hlt ?_
    refine bn_loadN hc rfl ?_
    refine bn_alloc H fun b5 w H => ?_
    refine bn_storeN (vs := evC x) H Has.n0 rfl (by simp [evC]) (evC_one x) fun w H => ?_
    replace H : Sat c (blk b5 (evC x) 111 :: MemH m (playM M (l.take i)) :: Γ) w := H
    (with_reducible (repeat (first | refine pu_st ?_ | refine bn_st ?_)))
    (refine bn_load1 (Sat.cell H Has.n0 rfl) ?_; (with_reducible (repeat (first | refine pu_st ?_ | refine bn_st ?_))))
    have hend : ∀ {w : World}, Sat c (MemH m (playM M (l.take (i + 1))) :: Γ) w → ∃ j : Nat, j ≤ l.length ∧ (.int .i64 ((i + 1 : Nat) : Int) : Value) = .int .i64 (j : Int) ∧ Sat c (MemH m (playM M (l.take j)) :: Γ) w := fun H => ⟨i + 1, by omega, rfl, H⟩
    rw [hst] at hend
    refine condD (fun k1 => ?_) (fun k1 => ?_)
    · (with_reducible (repeat (first | refine pu_st ?_ | refine bn_st ?_)))
      (refine bn_load1 (Sat.cell H Has.n0 rfl) ?_; (with_reducible (repeat (first | refine pu_st ?_ | refine bn_st ?_))))
      (refine bn_load1 (Sat.cell H Has.n0 rfl) ?_; (with_reducible (repeat (first | refine pu_st ?_ | refine bn_st ?_))))
      refine Cl.of memory_Memory_Store_en (Store_sp x.at' x.v (hk1 k1) (fun y hy => (hok.line y hy).few) hok.evs hT (H.get Has.n1)) ?_
      rintro _ w ⟨-, H⟩
      refine pu_succ (by omega) ?_
      refine ⟨hend ?_, by simp [intOf]; omega⟩
      unfold stepP
      rw [if_pos k1]
      exact (H.get Has.n1).tail
    (with_reducible (repeat (first | refine pu_st ?_ | refine bn_st ?_)))
    refine condD (fun k2 => by omega) (fun k2 => ?_)
    (with_reducible (repeat (first | refine pu_st ?_ | refine bn_st ?_)))
    refine condD (fun k3 => ?_) (fun k3 => ?_)
    · (with_reducible (repeat (first | refine pu_st ?_ | refine bn_st ?_)))
      (refine bn_load1 (Sat.cell H Has.n0 rfl) ?_; (with_reducible (repeat (first | refine pu_st ?_ | refine bn_st ?_))))
      obtain ⟨mb, es, ck, H⟩ := (H.get Has.n1).nameM
      refine Cl.of memory_Memory_Flush_en (Flush_sp x.at' hok.evs hT H) ?_
      rintro _ w ⟨-, H⟩
      refine pu_succ (by omega) ?_
      refine ⟨hend ?_, by simp [intOf]; omega⟩
      unfold stepP
      rw [if_neg k1, if_pos k3]
      exact (H.hideM.get Has.n1).tail
    (with_reducible (repeat (first | refine pu_st ?_ | refine bn_st ?_)))
    refine condD (fun k4 => ?_) (fun k4 => by omega)
    obtain ⟨mb, es, ck, H⟩ := (H.get Has.n1).nameM
    refine Cl.of memory_Memory_Fence_en (Fence_sp hok hT H) ?_
    rintro _ w H
    refine pu_succ (by omega) ?_
    refine ⟨hend ?_, by simp [intOf]; omega⟩
    unfold stepP
    rw [if_neg k1, if_neg k3, if_pos k4]
    exact (H.get Has.n1).tail
  · have : i = l.length := by omega
    subst this
    rw [List.take_length] at H
    exact H

theorem cuts_sp {u : Value} {keep : List Int} (hok : M.ok) (hl : keep.length ≤ 9223372036854775807) (hu : SlR c u keep.length ((keep.map intC).flatten)) (R : MemR c m M lv ps mb es ck ev) (H : Sat c Γ w) :
    Calls Tryz.prog 44 #[.pointer (some ⟨m, 0, none⟩), u] w (Rt fun v w' => Sat c (ownS 127 2 v (cutsK M.L keep M.L.length).length (((cutsK M.L keep M.L.length).map cutC).flatten) :: Γ) w') := by
  refine alumlaw10_cuts_ok ?_
  unfold alumlaw10_cuts_w
  obtain ⟨ad, cap, hue, -⟩ := hu H
  subst hue
  have hL := hok.lines
  refine ⟨fun v1 v2 w => ∃ i : Nat, i ≤ M.L.length ∧ v2 = .int .i64 (i : Int) ∧ Sat c (ownS 127 2 v1 (cutsK M.L keep i).length (((cutsK M.L keep i).map cutC).flatten) :: Γ) w, fun _ v _ => M.L.length - (intOf v).toNat, ⟨0, Nat.zero_le _, rfl, Sat.nilS none H⟩, ?_⟩
  intros
  rename_i w hI
  obtain ⟨i, hi, rfl, H⟩ := hI
  refine Cl.of memory_Memory_Lines_en (Lines_sp R H) ?_
  rintro _ w ⟨rfl, H⟩
  (with_reducible (repeat (first | refine pu_st ?_ | refine bn_st ?_)))
  refine condD (fun hlt => ?_) (fun hlt => ?_)
  · have hlt : i < M.L.length := by omega
    obtain ⟨y, hy⟩ : ∃ y, M.L[i]? = some y := ⟨M.L[i]'hlt, List.getElem?_eq_getElem _⟩
    have hfew := (hok.line y (List.mem_of_getElem? hy)).few
    refine Cl.of memory_Memory_Pending_en (Pending_sp (i : Int) hok R H) ?_
    rintro pv w ⟨p, hp, H⟩
    rw [if_pos (by omega), Int.toNat_natCast, hy] at hp
    simp only at hp
    subst hp
    obtain ⟨ap, cp, rfl, -⟩ := H.slAt Has.n0
    have H := H.tail
    have hck := cutsK_succ M.L keep i
    have hlen := cutsK_len M.L keep i
    (with_reducible (repeat (first | refine pu_st ?_ | refine bn_st ?_)))
    refine condD (fun h0 => ?_) (fun h0 => ?_)
    · (with_reducible (repeat (first | refine pu_st ?_ | refine bn_st ?_)))
      refine condD (fun hik => ?_) (fun hik => ?_)
      · have hik : i < keep.length := by omega
        obtain ⟨n, hn⟩ : ∃ n, keep[i]? = some n := ⟨keep[i]'hik, List.getElem?_eq_getElem _⟩
        obtain ⟨b1, o1, cap1, e, -, hc⟩ := slAt.elem (enc := intC) (fun _ => rfl) (hu H) hn
        cases e
        refine pu_indexN hik ?_
        refine bn_load1 (hc 0 _ rfl) ?_
        refine pu_add (by unfold i64; omega) ?_
        refine Cl.of (by kernel_rfl) (least_sp n (y.p.length + 1) (by omega) (by omega) H) ?_
        rintro _ w ⟨rfl, H⟩
        refine pu_build (cs := cutC ((i : Int), leastI n (y.p.length + 1))) (by kernel_rfl) ?_
        refine bn_one (cs := cutC ((i : Int), leastI n (y.p.length + 1))) rfl (cutC_len _) (by decide) H fun u1 w H => ?_
        refine bn_appendR H Has.n1 (H.slAt Has.n0) rfl (cutC_one _) (by omega) (by unfold maxLen; omega) (by omega) fun lv' w H => ?_
        refine pu_succ (by omega) ?_
        refine ⟨⟨i + 1, by omega, rfl, ?_⟩, by simp [intOf]; omega⟩
        have h4 := (H.get Has.n1).tail
        rw [hck]
        have e : cutK M.L keep i = [((i : Int), leastI n (y.p.length + 1))] := by unfold cutK; rw [hy, hn]; simp only; rw [if_pos (by omega)]
        rw [e]
        simpa using h4
      · refine pu_succ (by omega) ?_
        refine ⟨⟨i + 1, by omega, rfl, ?_⟩, by simp [intOf]; omega⟩
        have e : cutK M.L keep i = [] := by unfold cutK; rw [List.getElem?_eq_none (by omega : keep.length ≤ i)]; cases M.L[i]? <;> rfl
        rw [hck, e, List.append_nil]
        exact H
    · refine pu_succ (by omega) ?_
      refine ⟨⟨i + 1, by omega, rfl, ?_⟩, by simp [intOf]; omega⟩
      have e : cutK M.L keep i = [] := by
        unfold cutK; rw [hy]
        cases keep[i]? with
        | none => rfl
        | some n => simp only; rw [if_neg (by omega)]
      rw [hck, e, List.append_nil]
      exact H
  · have : i = M.L.length := by omega
    subst this
    exact H

theorem SlR.takeEv {c : Cx} {a : Option Addr} {cap k : Nat} {l : List Ev} (h : SlR c (.slice a l.length cap) l.length ((l.map evC).flatten)) (hk : k ≤ l.length) : SlR c (.slice a k cap) (l.take k).length (((l.take k).map evC).flatten) := fun H => by
  have h1 := slAt.take (k := 12) (h := k) (h H) hk (by rw [rows_length evC 12 evC_len]; exact Nat.mul_le_mul_right _ hk)
  rw [take_rows evC_len] at h1
  rw [List.length_take, Nat.min_eq_left hk]
  exact h1

/-- One failure: Apply on a copy tells the events; a part of them is played; the memory falls. -/
structure Fell (M0 : MemS) (E : List En) (M : MemS) : Prop where
  part : PartM M0 E M
  nil : ∀ y ∈ M.L, y.p = []
  ok : M.okN 0

theorem okN_crash {M : MemS} {N : Nat} (h : M.okN N) {cuts : List Cut} (hc : CutsOk M.L cuts) : (crashM M cuts).okN 0 := by
  refine ⟨by simp [crashM, cutsL_length]; exact h.lines, fun z hz => ?_, by simp [crashM]⟩
  obtain ⟨n, hn⟩ := List.mem_iff_getElem?.1 hz
  obtain ⟨y, k, -, -, rfl⟩ := crash_line hc hn
  exact ⟨fun s hs => (by cases hs), by simp [dropM], by simp [dropM], by simp [dropM]⟩

theorem again_sp {u t k0 k1 : Value} {l : List Im} {x0 x1 : Int} {K0 K1 : List Int} (hn : l.length ≤ 9223372036854775807) (hu : SlR c u l.length ((l.map imgC).flatten)) (ht : SlR c t E.length ((E.map enC).flatten))
    (hn0 : K0.length ≤ 9223372036854775807) (hn1 : K1.length ≤ 9223372036854775807) (hk0 : SlR c k0 K0.length ((K0.map intC).flatten)) (hk1 : SlR c k1 K1.length ((K1.map intC).flatten))
    (hEi : ∀ x ∈ E, i64 x.1) (hT : TabC c) (H : Sat c Γ w) :
    Calls Tryz.prog 5 #[u, t, .agg #[.int .i64 x0, .int .i64 x1], .agg #[k0, k1]] w (Rt (Yes c Γ (.bool true))) := by
  refine alumlaw10_RedoIsRepeated_ok ?_
  unfold alumlaw10_RedoIsRepeated_w
  obtain ⟨ua, ucap, hue, -⟩ := hu H
  obtain ⟨ta, tcap, hte, -⟩ := ht H
  obtain ⟨ka, kcap, hk0e, -⟩ := hk0 H
  obtain ⟨kb, kbcap, hk1e, -⟩ := hk1 H
  refine bn_box (z := [.int .i64 x0, .int .i64 x1]) rfl H fun b6 w H => ?_
  refine bn_box (z := [k0, k1]) rfl H fun b7 w H => ?_
  refine Cl.of memory_From_en (From_sp hn hu H) ?_
  rintro t16 w h
  rcases h with ⟨hr, rfl, H⟩ | ⟨hr, m, rfl, H⟩
  · (with_reducible (repeat (first | refine pu_st ?_ | refine bn_st ?_)))
    refine condB (fun _ => ?_) (fun h => by cases h)
    refine Cl.of (by kernel_rfl) (sanity_sp hT H) ?_
    rintro _ w ⟨rfl, H⟩
    exact ⟨rfl, H.tail.tail⟩
  subst hue
  (with_reducible (repeat (first | refine pu_st ?_ | refine bn_st ?_)))
  refine condB (fun h => by cases h) (fun _ => ?_)
  (with_reducible (repeat (first | refine pu_st ?_ | refine bn_st ?_)))
  refine condD (fun h12 => ?_) (fun h12 => ?_)
  · refine Cl.of (by kernel_rfl) (sanity_sp hT H) ?_
    rintro _ w ⟨rfl, H⟩
    exact ⟨rfl, H.tail.tail.tail⟩
  refine Cl.of (by kernel_rfl) (few_sp ht H) ?_
  rintro _ w ⟨rfl, H⟩
  (with_reducible (repeat (first | refine pu_st ?_ | refine bn_st ?_)))
  refine condND (fun h60 => ?_) (fun h60 => ?_)
  · refine Cl.of (by kernel_rfl) (sanity_sp hT H) ?_
    rintro _ w ⟨rfl, H⟩
    exact ⟨rfl, H.tail.tail.tail⟩
  have hlen : l.length ≤ 12 := by omega
  have hokN : MemS.okN ⟨l.map lineOf, 0, []⟩ 0 := ⟨by simp; omega, fun y hy => by
    obtain ⟨x, _, rfl⟩ := List.mem_map.1 hy
    exact ⟨fun s hs => (by cases hs), by simp [lineOf], by simp [lineOf], by simp [lineOf]⟩, by simp⟩
  have hgood : MemS.good ⟨l.map lineOf, 0, []⟩ := ⟨fun y hy => by
    obtain ⟨x, hx, rfl⟩ := List.mem_map.1 hy
    exact ⟨⟨right_line hr hx, fun h => absurd rfl h, fun s hs => (by cases hs)⟩, by simp [lineOf], by simp [lineOf]⟩⟩
  have hnil : ∀ y ∈ (⟨l.map lineOf, 0, []⟩ : MemS).L, y.p = [] := fun y hy => by
    obtain ⟨x, hx, rfl⟩ := List.mem_map.1 hy
    rfl
  generalize (⟨l.map lineOf, 0, []⟩ : MemS) = M0 at *
  -- the check
  obtain ⟨mb, es, ck, HM⟩ := H.nameM
  obtain ⟨c1, lv, ps, ev, R, hT1, m1, H1, back⟩ := HM.lentM hT
  refine Cl.of redo_Check_en (Check_sp (by omega) hEi (fun H => ht (back H)) R hT1 H1) ?_
  rintro _ w ⟨rfl, H1⟩
  (with_reducible (repeat (first | refine pu_st ?_ | refine bn_st ?_)))
  refine condND (fun h => ?_) (fun hchk => ?_)
  · refine Cl.of (by kernel_rfl) (sanity_sp hT1 H1) ?_
    rintro _ w ⟨rfl, H1⟩
    exact ⟨rfl, (back H1).tail.tail.tail⟩
  -- none is rotten
  have hok0 := hokN.ok (by omega)
  refine ⟨fun v w => ∃ i : Nat, i ≤ M0.L.length ∧ v = .int .i64 (i : Int) ∧ (∀ (n : Nat) (y : LineS), n < i → M0.L[n]? = some y → (chk y.x y.c).1 ≠ 2) ∧ Sat c1 (blk b7 [k0, k1] 72 :: blk b6 [.int .i64 x0, .int .i64 x1] 71 :: Γ) w, fun v _ => M0.L.length - (intOf v).toNat, ⟨0, Nat.zero_le _, rfl, fun n y h => by omega, H1⟩, ?_⟩
  intros
  rename_i w hI
  obtain ⟨i, hi, rfl, hwh, H1⟩ := hI
  refine Cl.of memory_Memory_Lines_en (Lines_sp R H1) ?_
  rintro _ w ⟨rfl, H1⟩
  have hL := hok0.lines
  (with_reducible (repeat (first | refine pu_st ?_ | refine bn_st ?_)))
  refine condD (fun hlt => ?_) (fun hlt => ?_)
  · refine Cl.of memory_Memory_State_en (State_sp (i : Int) R hT1 H1) ?_
    rintro _ w ⟨rfl, H1⟩
    (with_reducible (repeat (first | refine pu_st ?_ | refine bn_st ?_)))
    refine condD (fun h2 => ?_) (fun h2 => ?_)
    · refine Cl.of (by kernel_rfl) (sanity_sp hT1 H1) ?_
      rintro _ w ⟨rfl, H1⟩
      exact ⟨rfl, (back H1).tail.tail.tail⟩
    · refine pu_succ (by omega) ?_
      refine ⟨⟨i + 1, by omega, rfl, fun n y hn hy => ?_, H1⟩, by simp [intOf]; omega⟩
      by_cases hni : n = i
      · subst hni
        unfold stateM at h2
        rw [if_pos (by omega), Int.toNat_natCast, hy] at h2
        exact h2
      · exact hwh n y (by omega) hy
  have hwhole : M0.whole := fun y hy => by
    obtain ⟨n, hn⟩ := List.mem_iff_getElem?.1 hy
    have := (List.getElem?_eq_some_iff.1 hn).1
    exact (fix_chk _ _).2 (hwh n y (by omega) hn)
  clear hwh hlt hi
  -- what it leads to
  refine Cl.of memory_Memory_Copy_en (Copy_sp hok0 R H1) ?_
  rintro _ w ⟨m2, rfl, H1⟩
  have H := (back H1).hideM.get Has.n1
  clear R H1 back HM
  (with_reducible (repeat (first | refine pu_st ?_ | refine bn_st ?_)))
  refine condB (fun h => by cases h) (fun _ => ?_)
  refine Cl.of redo_Apply_en (Apply_sp hokN (by omega) hEi ht hT H) ?_
  rintro _ w ⟨rfl, H⟩
  have ha0 : (applyM M0 E).1 = 0 := by unfold applyM; rw [if_pos hchk]
  rw [ha0]
  (with_reducible (repeat (first | refine pu_st ?_ | refine bn_st ?_)))
  refine condND (fun h => absurd rfl h) (fun _ => ?_)
  have hokW := (hokN.apply E).ok (by omega)
  refine ⟨fun v w => ∃ (i : Nat) (M : MemS), i ≤ 2 ∧ v = .int .i64 (i : Int) ∧ Fell M0 E M ∧ Sat c (MemH m M :: MemH m2 (applyM M0 E).2 :: blk b7 [k0, k1] 72 :: blk b6 [.int .i64 x0, .int .i64 x1] 71 :: Γ) w, fun v _ => 2 - (intOf v).toNat,
    ⟨0, M0, Nat.zero_le _, rfl, ⟨PartM.refl hgood hwhole hnil, hnil, hokN⟩, H.get Has.n1⟩, ?_⟩
  intros
  rename_i w hI
  obtain ⟨i, M, hi, rfl, hF, H⟩ := hI
  have hokM := hF.ok.ok (by omega)
  (with_reducible (repeat (first | refine pu_st ?_ | refine bn_st ?_)))
  refine condD (fun hlt => ?_) (fun hlt => ?_)
  · obtain ⟨xi, ki, Ki, hxi, hki, hni, hkS⟩ : ∃ (xi : Int) (ki : Value) (Ki : List Int), ([.int .i64 x0, .int .i64 x1] : List Value)[i]? = some (.int .i64 xi) ∧ ([k0, k1] : List Value)[i]? = some ki ∧ Ki.length ≤ 9223372036854775807 ∧ SlR c ki Ki.length ((Ki.map intC).flatten) := by
      rcases (by omega : i = 0 ∨ i = 1) with rfl | rfl
      · exact ⟨x0, k0, K0, rfl, rfl, hn0, hk0⟩
      · exact ⟨x1, k1, K1, rfl, rfl, hn1, hk1⟩
    obtain ⟨mb, es, ck, HM⟩ := H.nameM
    obtain ⟨c1, lv, ps, ev, R, hT1, m1, H1, back⟩ := HM.lentM hT
    refine Cl.of memory_Memory_Copy_en (Copy_sp hokM R H1) ?_
    rintro _ w ⟨x, rfl, H1⟩
    have H := (back H1).hideM.get Has.n1
    clear R H1 back HM
    (with_reducible (repeat (first | refine pu_st ?_ | refine bn_st ?_)))
    refine condB (fun h => by cases h) (fun _ => ?_)
    obtain ⟨mb, es, ck, H⟩ := H.nameM
    refine Cl.of memory_Memory_Forget_en (Forget_sp H) ?_
    rintro _ w H
    have H := H.hideM
    have hokX : MemS.okN ⟨M.L, M.span, []⟩ 0 := ⟨hF.ok.lines, hF.ok.line, by simp⟩
    refine Cl.of redo_Apply_en (Apply_sp hokX (by omega) hEi ht hT H) ?_
    rintro _ w ⟨rfl, H⟩
    have hchX : checkM ⟨M.L, M.span, []⟩ E = 0 := check_whole hchk hF.part.whole hF.part.len
    have hoX := (hokX.apply E)
    have haX : (applyM ⟨M.L, M.span, []⟩ E).1 = 0 := by unfold applyM; rw [if_pos hchX]
    have hev := apply_ev (M := ⟨M.L, M.span, []⟩) (E := E) (by simp)
    rw [haX]
    generalize (applyM ⟨M.L, M.span, []⟩ E).2 = X at H hoX hev
    (with_reducible (repeat (first | refine pu_st ?_ | refine bn_st ?_)))
    refine condND (fun h => absurd rfl h) (fun _ => ?_)
    obtain ⟨mb, es, ck, HM⟩ := H.nameM
    obtain ⟨c1, lv, ps, ev, R, hT1, m1, H1, back⟩ := HM.lentM hT
    refine Cl.of memory_Memory_Events_en (Events_sp (hoX.ok (by omega)) R H1) ?_
    rintro evs w H1
    have H := (back H1).tail
    clear R H1 back HM
    have hevl := hoX.evs
    obtain ⟨ae, capE, rfl, hcapE, -⟩ := H.slAt Has.n0
    refine pu_indexA (by omega) (by omega) ?_
    rw [Nat.zero_add, Int.toNat_natCast, Nat.mul_one]
    refine bn_load1 (H.cell (cs := [.int .i64 x0, .int .i64 x1]) (t := 71) Has.n4 hxi) ?_
    (with_reducible (repeat (first | refine pu_st ?_ | refine bn_st ?_)))
    refine pu_add (by unfold i64; omega) ?_
    refine Cl.of (by kernel_rfl) (least_sp xi (X.ev.length + 1) (by omega) (by omega) H) ?_
    rintro _ w ⟨rfl, H⟩
    obtain ⟨q1, q2⟩ := leastI_of (n := xi) (m := X.ev.length + 1) (by omega)
    refine pu_sliceH q1 (by omega) ?_
    obtain ⟨c1, A1, m1, H1, back⟩ := H.lent
    have hq : (leastI xi (X.ev.length + 1)).toNat ≤ X.ev.length := by omega
    generalize (leastI xi (X.ev.length + 1)).toNat = q at hq
    have hT1 : TabC c1 := fun H => hT (back H)
    have htl : ∀ e ∈ X.ev.take q, EvA E e := fun e he => hev e (List.mem_of_mem_take he)
    refine Cl.of (by kernel_rfl) (play_sp hF.ok (by rw [List.length_take]; omega) (fun e he => ?_) (SlR.takeEv A1.slR hq) hT1 H1) ?_
    · rcases htl e he with ⟨h1, h2⟩ | h1 | h1
      · exact ⟨fun _ => hEi _ h2, .inl h1⟩
      · exact ⟨fun h => by omega, .inr (.inl h1)⟩
      · exact ⟨fun h => by omega, .inr (.inr h1)⟩
    rintro _ w H1
    have H := (back H1).tail
    clear H1 back A1 m1 hT1
    have hP := PartM.play _ hF.part htl
    have hPo := MemS.okN.play (X.ev.take q) hF.ok
    have hPk := hPo.ok (by rw [List.length_take]; omega)
    generalize playM M (X.ev.take q) = Q at H hP hPo hPk
    refine pu_indexA (by omega) (by omega) ?_
    rw [Nat.zero_add, Int.toNat_natCast, Nat.mul_one]
    refine bn_load1 (H.cell (cs := [k0, k1]) (t := 72) Has.n2 hki) ?_
    obtain ⟨mb, es, ck, HM⟩ := H.nameM
    obtain ⟨c1, lv, ps, ev, R, hT1, m1, H1, back⟩ := HM.lentM hT
    refine Cl.of (by kernel_rfl) (cuts_sp hPk hni (fun H => hkS (back H)) R H1) ?_
    rintro cv w H1
    have H := (back H1).get Has.n1
    clear R H1 back HM
    obtain ⟨hco, -⟩ := cutsK_ok Q.L Ki Q.L.length
    have hcl := cutsK_len Q.L Ki Q.L.length
    generalize cutsK Q.L Ki Q.L.length = cu at H hco hcl
    obtain ⟨c1, A1, m1, H1, back⟩ := H.lent
    have hT1 : TabC c1 := fun H => hT (back H)
    have hQL := hPk.lines
    refine Cl.of memory_Memory_Crash_en (Crash_sp hPk (by omega) hco A1.slR hT1 H1) ?_
    rintro _ w ⟨rfl, H1⟩
    have H := (back H1).tail
    (with_reducible (repeat (first | refine pu_st ?_ | refine bn_st ?_)))
    refine condND (fun h => absurd rfl h) (fun _ => ?_)
    obtain ⟨g1, g2⟩ := hP.crash hco
    refine pu_succ (by omega) ?_
    exact ⟨⟨i + 1, _, by omega, rfl, ⟨g1, g2, okN_crash hPo hco⟩, H⟩, by simp [intOf]; omega⟩
  · obtain ⟨hag1, hag2⟩ := apply_again hgood hwhole hnil hchk hF.part
    refine Cl.of redo_Apply_en (Apply_sp hF.ok (by omega) hEi ht hT H) ?_
    rintro _ w ⟨rfl, H⟩
    have ha1 : (applyM M E).1 = 0 := by unfold applyM; rw [if_pos hag1]
    rw [ha1]
    have hokZ := (hF.ok.apply E).ok (by omega)
    refine Cl.of (by kernel_rfl) (sanity_sp hT H) ?_
    rintro _ w ⟨rfl, H⟩
    refine condB (fun _ => ?_) (fun h => by cases h)
    (with_reducible (repeat (first | refine pu_st ?_ | refine bn_st ?_)))
    refine condT rfl ?_
    obtain ⟨c1, A1, m1, H1, back1⟩ := H.lent
    obtain ⟨c2, A2, m2', H2, back2⟩ := H1.lent
    have A1 := m2' _ A1
    have hT2 : TabC c2 := fun H => hT (back1 (back2 H))
    obtain ⟨lv1, ps1, mb1, es1, ck1, ev1, R1⟩ := A1.mem
    obtain ⟨lv2, ps2, mb2, es2, ck2, ev2, R2⟩ := A2.mem
    refine Cl.of memory_Memory_Seen_en (Seen_sp hokZ R1 hT2 H2) ?_
    rintro s1 w H
    refine Cl.of memory_Memory_Seen_en (Seen_sp hokW R2 hT2 H) ?_
    rintro s2 w H
    refine Cl.of alumref04_SameSeen_en (SameSeenOwn_sp hag2 trivial (by have := hokZ.lines; omega) (H.get Has.n1)) ?_
    rintro _ w ⟨rfl, H⟩
    have H := back1 (back2 H)
    exact ⟨rfl, H.tail.tail.tail.tail⟩

end
end Go.Proofs.YtlolaieolgmdnaaGreatDoor
