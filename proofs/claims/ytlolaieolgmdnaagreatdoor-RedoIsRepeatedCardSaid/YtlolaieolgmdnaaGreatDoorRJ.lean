/-
  The specification's memory, changed: settle, put, Store, Flush, Fence; Seen.
-/
import Derived.Test.YtlolaieolgmdnaaGreatDoorMH
import Derived.Test.YtlolaieolgmdnaaGreatDoorRB
namespace Go.Proofs.YtlolaieolgmdnaaGreatDoor
open Go.RowKit
set_option linter.unusedVariables false
set_option linter.unusedSimpArgs false
set_option maxRecDepth 10000

/-- A line with something pending is not rotten. -/
def LineS.sound (y : LineS) : Prop := y.p ≠ [] → (fix y.x y.c).2.2 = 0

abbrev opR (r bl len cap : Nat) (sp : List Value) (Z : List (LineS × Value)) (n : Nat) (z : LineS × Value) (span : Int) (ev : Value) (E : List Ev) (Γ : List HProp) : List HProp :=
  blk r [.slice (some ⟨bl, 0, none⟩) len cap, .int .i64 span, ev] 33 :: blk bl (((Z.set n z).map lnC).flatten ++ sp) 91 :: pendH z ::
      ownS 111 12 ev E.length ((E.map evC).flatten) :: big ((Z.eraseIdx n).map pendH) :: Γ

section
variable {c : Cx} {Γ Δ : List HProp} {w : World} {r : Nat} {M : MemS} {bl cap : Nat} {sp : List Value} {Z : List (LineS × Value)} {n : Nat} {span : Int} {ev : Value} {E : List Ev} {L : List LineS}

theorem Sat.openRLine {y : LineS} (H : Sat c (RMemH r M :: Γ) w) (hy : M.L[n]? = some y) : ∃ bl cap sp ps a1 cap1 ev, ps.length = M.L.length ∧ ps[n]? = some (.slice a1 y.p.length cap1) ∧ M.L.length ≤ cap ∧
    ((((M.L.zip ps).map lnC).flatten) ++ sp).length = cap * 11 ∧ y.p.length ≤ cap1 ∧ (M.L.zip ps)[n]? = some (y, .slice a1 y.p.length cap1) ∧ (∀ z' : LineS × Value, n * 11 + 11 ≤ (((((M.L.zip ps).set n z').map lnC).flatten) ++ sp).length) ∧
    Sat c (opR r bl M.L.length cap sp (M.L.zip ps) n (y, .slice a1 y.p.length cap1) M.span ev M.ev Γ) w := by
  obtain ⟨lv, ps, ev, h1, H⟩ := H.openRM
  have hlt : n < M.L.length := (List.getElem?_eq_some_iff.1 hy).1
  obtain ⟨p, hp⟩ : ∃ p, ps[n]? = some p := ⟨ps[n]'(by omega), List.getElem?_eq_getElem _⟩
  have hz : (M.L.zip ps)[n]? = some (y, p) := by rw [List.getElem?_zip_eq_some]; exact ⟨hy, hp⟩
  obtain ⟨hl, hs⟩ := (H.get (.tail .head)).openS
  rcases hs with ⟨a, rfl, h0, -, -⟩ | ⟨bl, cap, sp, rfl, h3, h4, H⟩
  · omega
  have H5 := ((H.get Has.n3).pendOut hz)
  obtain ⟨a1, cap1, rfl, hle1, -⟩ := (show Sat c (ownS 118 2 p y.p.length ((y.p.map stC).flatten) :: _) w from H5).slAt .head
  refine ⟨bl, cap, sp, ps, a1, cap1, ev, h1, hp, h3, h4, hle1, hz, fun z' => ?_, ?_⟩
  · rw [List.length_append, rows_length lnC 11 lnC_len, List.length_set]
    have : (n + 1) * 11 ≤ (M.L.zip ps).length * 11 := Nat.mul_le_mul_right _ (List.getElem?_eq_some_iff.1 hz).1
    omega
  · have h9 := H5.pull (ps := [_, _, _, _, _]) (.cons Has.n3 (.cons Has.n2 (.cons Has.n0 (.cons Has.n1 (.cons Has.n0 .nil)))))
    unfold opR; rw [set_same hz]; exact h9

theorem Sat.shutRLine {y y' : LineS} {ps : List Value} {p p' : Value} (hy : L[n]? = some y) (hps : ps.length = L.length) (hp : ps[n]? = some p) (hcap : L.length ≤ cap)
    (hsp : (((L.zip ps).map lnC).flatten ++ sp).length = cap * 11) (H : Sat c (opR r bl L.length cap sp (L.zip ps) n (y', p') span ev E Γ) w) : Sat c (RMemH r ⟨L.set n y', span, E⟩ :: Γ) w := by
  have hz : (L.zip ps)[n]? = some (y, p) := by rw [List.getElem?_zip_eq_some]; exact ⟨hy, hp⟩
  have hzs : (L.zip ps).set n (y', p') = (L.set n y').zip (ps.set n p') := by
    apply List.ext_getElem?
    intro i
    by_cases hi : i = n
    · subst hi
      rw [List.getElem?_set_self', hz]
      symm
      show ((L.set i y').zip (ps.set i p'))[i]? = some (y', p')
      rw [List.getElem?_zip_eq_some]
      exact ⟨set_at hy, by rw [List.getElem?_set_self', hp]; rfl⟩
    · rw [List.getElem?_set_ne (fun e => hi e.symm)]
      rw [List.zip_eq_zipWith, List.zip_eq_zipWith, List.getElem?_zipWith, List.getElem?_zipWith, List.getElem?_set_ne (fun e => hi e.symm), List.getElem?_set_ne (fun e => hi e.symm)]
  have hrl : ∀ Z : List (LineS × Value), ((Z.map lnC).flatten).length = Z.length * 11 := fun Z => rows_length lnC 11 lnC_len Z
  unfold opR at H
  rw [hzs] at H
  have H1 := ((H.get Has.n1).shutS (n := L.length) (by rw [hrl, List.length_zip, List.length_set, List.length_set, hps, Nat.min_self]) hcap (by
    rw [List.length_append, hrl] at hsp ⊢
    rw [List.length_zip, List.length_set, List.length_set]; rw [List.length_zip] at hsp; exact hsp))
  have H2 := (H1.pull (ps := [pendH (y', p'), big (((L.zip ps).eraseIdx n).map pendH)]) (.cons Has.n2 (.cons Has.n3 .nil)))
  have H3 := Sat.pendIn hz H2
  rw [hzs] at H3
  refine Sat.shutRM (lv := .slice (some ⟨bl, 0, none⟩) L.length cap) (ev := ev) (ps := ps.set n p') (by simp [hps]) ?_
  have h9 := H3.pull (ps := [_, _, _, _]) (.cons Has.n2 (.cons Has.n1 (.cons Has.n1 (.cons Has.n0 .nil))))
  simpa using h9

theorem Sat.lentR (H : Sat c (RMemH r M :: Γ) w) (hT : TabC c) : ∃ (c' : Cx) (lv : Value) (ps : List Value) (ev : Value), RMemR c' r M lv ps ev ∧ TabC c' ∧ (∀ q, At c q → At c' q) ∧ Sat c' Γ w ∧
    ∀ {Δ : List HProp} {w' : World}, Sat c' Δ w' → Sat c (RMemH r M :: Δ) w' := by
  obtain ⟨c', hA, hm, H', back⟩ := H.lent
  obtain ⟨lv, ps, ev, R⟩ := hA.rmem
  exact ⟨c', lv, ps, ev, R, fun H => hT (back H), hm, H', back⟩

theorem rput_sp (kind at' v : Int) (hat : i64 at') (hfew : ∀ y ∈ M.L, y.p.length ≤ 1000000) (hE : M.ev.length ≤ 1000000) (hT : TabC c) (H : Sat c (RMemH r M :: Γ) w) :
    Calls Tryz.prog 61 #[.pointer (some ⟨r, 0, none⟩), .int .i64 at', .int .i64 v, .int .i64 kind] w
      (Rt fun u w' => u = .int .i64 (putM M kind at' v).1 ∧ Sat c (RMemH r (putM M kind at' v).2 :: Γ) w') := by
  refine alumref04_Memory_put_ok ?_
  unfold alumref04_Memory_put_w
  (with_reducible (repeat (first | refine pu_st ?_ | refine bn_st ?_)))
  refine condD (fun h0 => ?_) (fun h0 => ?_)
  · unfold putM; rw [if_pos h0]; exact ⟨rfl, H⟩
  obtain ⟨N, rfl⟩ : ∃ N : Nat, at' = N := ⟨at'.toNat, by omega⟩
  have hput : putM M kind N v = match M.L[N / 8]? with
    | none => (40, M)
    | some y => if okW v = false then (1, M) else if (chk y.x y.c).1 = 2 then (9, M) else
      (0, ⟨M.L.set (N / 8) { y with p := y.p ++ [(((N % 8 : Nat) : Int), v)] }, M.span, M.ev ++ [⟨kind, N, v, M.span, zer⟩]⟩) := by
    unfold putM; rw [if_neg h0]; simp only [Int.toNat_natCast]; cases M.L[N / 8]? <;> rfl
  rw [hput]
  refine pu_quo (by omega) (tdiv_i64 hat) ?_
  rw [tdiv_nat]
  obtain ⟨c1, lv, ps, ev, R, hT1, m1, H1, back⟩ := H.lentR hT
  refine Cl.of alumref04_Memory_has_en (rhas_sp _ R H1) ?_
  rintro _ w ⟨rfl, H1⟩
  (with_reducible (repeat (first | refine pu_st ?_ | refine bn_st ?_)))
  refine condND (fun hk => ?_) (fun hk => ?_)
  · rw [List.getElem?_eq_none (by omega)]; exact ⟨rfl, back H1⟩
  obtain ⟨y, hy⟩ : ∃ y, M.L[N / 8]? = some y := ⟨M.L[N / 8]'(by omega), List.getElem?_eq_getElem _⟩
  have hlt : N / 8 < M.L.length := (List.getElem?_eq_some_iff.1 hy).1
  rw [hy]
  simp only
  refine Cl.of alumref04_word_en (rword_sp v H1) ?_
  rintro _ w ⟨rfl, H1⟩
  (with_reducible (repeat (first | refine pu_st ?_ | refine bn_st ?_)))
  refine condNB (fun hw => ?_) (fun hw => ?_)
  · rw [if_pos hw]; exact ⟨rfl, back H1⟩
  rw [if_neg (by simp [hw])]
  refine pu_quo (by omega) (tdiv_i64 hat) ?_
  rw [tdiv_nat]
  refine Cl.of alumref04_Memory_State_en (rState_sp _ R hT1 H1) ?_
  rintro _ w ⟨rfl, H1⟩
  have hst : stateM M.L ((N / 8 : Nat) : Int) = (chk y.x y.c).1 := by
    unfold stateM; rw [if_pos (by omega), Int.toNat_natCast, hy]
  rw [hst]
  (with_reducible (repeat (first | refine pu_st ?_ | refine bn_st ?_)))
  refine condD (fun hs => ?_) (fun hs => ?_)
  · rw [if_pos hs]; exact ⟨rfl, back H1⟩
  rw [if_neg hs]
  have H := back H1
  have hfy := hfew y (List.mem_of_getElem? hy)
  obtain ⟨bl, cap, sp, ps, a1, cap1, ev, hps, hp, hcap, hsp, hle1, hz, hlen, H⟩ := H.openRLine hy
  refine bn_buildSlice (cs := []) (fun z hz => ⟨by omega, by simp [Instr.fill]⟩) (by simp) H fun u0 w H => ?_
  (with_reducible (repeat (first | refine pu_st ?_ | refine bn_st ?_)))
  (refine bn_load1 (Sat.cell H Has.n1 rfl) ?_; (with_reducible (repeat (first | refine pu_st ?_ | refine bn_st ?_))))
  refine pu_quo (by omega) (tdiv_i64 hat) ?_
  rw [tdiv_nat]
  refine pu_indexN hlt ?_
  rw [Nat.zero_add]
  (with_reducible (repeat (first | refine pu_st ?_ | refine bn_st ?_)))
  refine bn_load1 (v := .slice a1 y.p.length cap1) (H.cell Has.n2 (by rw [lineCell hz sp 9 (by omega)]; rfl)) ?_
  have hpa := (show Sat c (_ :: _ :: _ :: ownS 118 2 (.slice a1 y.p.length cap1) y.p.length ((y.p.map stC).flatten) :: _) w from H).slAt Has.n3
  refine bn_appendR H Has.n0 hpa (rows_length stC 2 stC_len _) (all_one_rows stC _ stC_one) (by omega) (by unfold maxLen; omega) (by omega) fun p1 w H => ?_
  refine pu_rem (by omega) ?_
  rw [tmod_nat]
  refine pu_build (cs := stC (((N % 8 : Nat) : Int), v)) (by kernel_rfl) ?_
  refine bn_one (cs := stC (((N % 8 : Nat) : Int), v)) rfl (stC_len _) (by decide) H fun u w H => ?_
  refine bn_appendR H Has.n1 (H.slAt Has.n0) rfl (stC_one _) (by omega) (by unfold maxLen; omega) (by omega) fun p' w H => ?_
  (with_reducible (repeat (first | refine pu_st ?_ | refine bn_st ?_)))
  (refine bn_load1 (Sat.cell H Has.n2 rfl) ?_; (with_reducible (repeat (first | refine pu_st ?_ | refine bn_st ?_))))
  refine pu_quo (by omega) (tdiv_i64 hat) ?_
  rw [tdiv_nat]
  refine pu_indexN hlt ?_
  rw [Nat.zero_add]
  (with_reducible (repeat (first | refine pu_st ?_ | refine bn_st ?_)))
  obtain ⟨a2, cap2, hp2, -⟩ := H.slAt Has.n0
  refine bn_store1 H Has.n3 (by have := hlen (y, .slice a1 y.p.length cap1); omega) (by rw [hp2]; rfl) fun w H => ?_
  rw [lineSet (z' := (y, .slice a1 y.p.length cap1)) (z'' := ({ y with p := y.p ++ [(((N % 8 : Nat) : Int), v)] }, p')) hz sp 9 p' (by omega) rfl] at H
  -- blk bl, p', u, blk r, pendH, ev, big
  (refine ⟨Sat _ _, Sat _ _, Sat.drew H, fun _ h => h, ?_⟩; (with_reducible (repeat (first | refine pu_st ?_ | refine bn_st ?_))))
  (refine ⟨_, fun w H => run_load1 (H.cell Has.n3 rfl), ?_⟩; (with_reducible (repeat (first | refine pu_st ?_ | refine bn_st ?_))))
  (refine ⟨_, fun w H => run_load1 (H.cell Has.n3 rfl), ?_⟩; (with_reducible (repeat (first | refine pu_st ?_ | refine bn_st ?_))))
  refine pu_build (cs := evC ⟨kind, N, v, M.span, zer⟩) (by kernel_rfl) ?_
  (refine ⟨fun w H => ?_, trivial⟩; (with_reducible (repeat (first | refine pu_st ?_ | refine bn_st ?_))))
  refine bn_one (cs := evC ⟨kind, N, v, M.span, zer⟩) rfl (evC_len _) (by decide) H fun u2 w H => ?_
  (refine ⟨Sat _ _, Sat _ _, H, fun _ h => h, (by first | trivial | exact fun _ h => h | exact fun _ h => h.tail | exact fun _ h => h.tail.tail), ?_⟩; (with_reducible (repeat (first | refine pu_st ?_ | refine bn_st ?_))))
  (refine ⟨fun w H => ?_, trivial⟩; (with_reducible (repeat (first | refine pu_st ?_ | refine bn_st ?_))))
  refine bn_appendR H Has.n6 (H.slAt Has.n0) rfl (evC_one _) (by omega) (by unfold maxLen; omega) (by omega) fun ev' w H => ?_
  (refine ⟨Sat _ _, Sat _ _, H, fun _ h => h, (by first | trivial | exact fun _ h => h | exact fun _ h => h.tail | exact fun _ h => h.tail.tail), ?_⟩; (with_reducible (repeat (first | refine pu_st ?_ | refine bn_st ?_))))
  (refine ⟨fun w H => ?_, trivial⟩; (with_reducible (repeat (first | refine pu_st ?_ | refine bn_st ?_))))
  obtain ⟨a3, cap3, he3, -⟩ := H.slAt Has.n0
  refine bn_store1 H Has.n5 (by simp) (by rw [he3]; rfl) fun w H => ?_
  (refine ⟨Sat _ _, Sat _ _, H, fun _ h => h, (by first | trivial | exact fun _ h => h | exact fun _ h => h.tail | exact fun _ h => h.tail.tail), ?_⟩; (with_reducible (repeat (first | refine pu_st ?_ | refine bn_st ?_))))
  (intro w H; (with_reducible (repeat (first | refine pu_st ?_ | refine bn_st ?_))))
  refine ⟨rfl, ?_⟩
  have epd : pendH ({ y with p := y.p ++ [(((N % 8 : Nat) : Int), v)] }, p') = ownS 118 2 p' (0 + y.p.length + 1) ([] ++ (y.p.map stC).flatten ++ stC (((N % 8 : Nat) : Int), v)) := by unfold pendH; simp
  rw [← epd] at H
  have h6 := ((((((H.get Has.n6).tail).get Has.n5).tail).get Has.n2).tail).pull (ps := [_, _, _, _, _]) (.cons Has.n0 (.cons Has.n1 (.cons Has.n1 (.cons Has.n0 (.cons Has.n0 .nil)))))
  refine Sat.shutRLine (bl := bl) (span := M.span) (E := M.ev ++ [⟨kind, N, v, M.span, zer⟩]) (y' := { y with p := y.p ++ [(((N % 8 : Nat) : Int), v)] }) (p' := p') (ev := ev') hy hps hp hcap hsp ?_
  simpa [opR] using h6

theorem rStore_sp (at' v : Int) (hat : i64 at') (hfew : ∀ y ∈ M.L, y.p.length ≤ 1000000) (hE : M.ev.length ≤ 1000000) (hT : TabC c) (H : Sat c (RMemH r M :: Γ) w) :
    Calls Tryz.prog 26 #[.pointer (some ⟨r, 0, none⟩), .int .i64 at', .int .i64 v] w
      (Rt fun u w' => u = .int .i64 (putM M 1 at' v).1 ∧ Sat c (RMemH r (putM M 1 at' v).2 :: Γ) w') := by
  refine alumref04_Memory_Store_ok ?_
  unfold alumref04_Memory_Store_w
  exact Cl.of alumref04_Memory_put_en (rput_sp 1 at' v hat hfew hE hT H) fun _ _ h => h

theorem rFlush_sp (k : Int) (hE : M.ev.length ≤ 1000000) (hT : TabC c) (H : Sat c (RMemH r M :: Γ) w) :
    Calls Tryz.prog 72 #[.pointer (some ⟨r, 0, none⟩), .int .i64 k] w (Rt fun u w' => u = .int .i64 (flushM M k).1 ∧ Sat c (RMemH r (flushM M k).2 :: Γ) w') := by
  refine alumref04_Memory_Flush_ok ?_
  unfold alumref04_Memory_Flush_w
  obtain ⟨c1, lv, ps, ev, R, hT1, m1, H1, back⟩ := H.lentR hT
  refine Cl.of alumref04_Memory_has_en (rhas_sp _ R H1) ?_
  rintro _ w ⟨rfl, H1⟩
  have H := back H1
  (with_reducible (repeat (first | refine pu_st ?_ | refine bn_st ?_)))
  refine condND (fun hk => ?_) (fun hk => ?_)
  · have : flushM M k = (40, M) := by
      unfold flushM
      split
      · rfl
      · rw [List.getElem?_eq_none (by omega)]
    rw [this]
    exact ⟨rfl, H⟩
  obtain ⟨n, rfl⟩ : ∃ n : Nat, k = n := ⟨k.toNat, by omega⟩
  obtain ⟨y, hy⟩ : ∃ y, M.L[n]? = some y := ⟨M.L[n]'(by omega), List.getElem?_eq_getElem _⟩
  have hlt : n < M.L.length := (List.getElem?_eq_some_iff.1 hy).1
  have hfl : flushM M n = (0, ⟨M.L.set n { y with mark := y.p.length }, M.span, M.ev ++ [⟨3, n, 0, 0, zer⟩]⟩) := by
    unfold flushM; rw [if_neg (by omega)]; simp only [Int.toNat_natCast, hy]
  rw [hfl]
  obtain ⟨bl, cap, sp, ps, a1, cap1, ev, hps, hp, hcap, hsp, hle1, hz, hlen, H⟩ := H.openRLine hy
  (refine ⟨Sat _ _, Sat _ _, Sat.drew H, fun _ h => h, ?_⟩; (with_reducible (repeat (first | refine pu_st ?_ | refine bn_st ?_))))
  (refine ⟨_, fun w H => run_load1 (H.cell Has.n0 rfl), ?_⟩; (with_reducible (repeat (first | refine pu_st ?_ | refine bn_st ?_))))
  (refine ⟨_, fun w H => run_load1 (H.cell Has.n0 rfl), ?_⟩; (with_reducible (repeat (first | refine pu_st ?_ | refine bn_st ?_))))
  refine pu_indexN hlt ?_
  rw [Nat.zero_add]
  (with_reducible (repeat (first | refine pu_st ?_ | refine bn_st ?_)))
  refine ⟨.slice a1 y.p.length cap1, fun w H => run_load1 (H.cell Has.n1 (by rw [lineCell hz sp 9 (by omega)]; rfl)), ?_⟩
  (refine ⟨_, fun w H => run_len _, ?_⟩; (with_reducible (repeat (first | refine pu_st ?_ | refine bn_st ?_))))
  refine pu_indexN hlt ?_
  rw [Nat.zero_add]
  (with_reducible (repeat (first | refine pu_st ?_ | refine bn_st ?_)))
  (refine ⟨fun w H => ?_, trivial⟩; (with_reducible (repeat (first | refine pu_st ?_ | refine bn_st ?_))))
  refine bn_store1 H Has.n1 (by have := hlen (y, .slice a1 y.p.length cap1); omega) rfl fun w H => ?_
  (refine ⟨Sat _ _, Sat _ _, H, fun _ h => h, (by first | trivial | exact fun _ h => h | exact fun _ h => h.tail | exact fun _ h => h.tail.tail), ?_⟩; (with_reducible (repeat (first | refine pu_st ?_ | refine bn_st ?_))))
  (intro w H; (with_reducible (repeat (first | refine pu_st ?_ | refine bn_st ?_))))
  rw [lineSet (z' := (y, .slice a1 y.p.length cap1)) (z'' := ({ y with mark := y.p.length }, .slice a1 y.p.length cap1)) hz sp 10 (.int .i64 y.p.length) (by omega) rfl] at H
  refine bn_load1 (H.cell Has.n1 rfl) ?_
  refine pu_build (cs := evC ⟨3, n, 0, 0, zer⟩) (by kernel_rfl) ?_
  refine bn_one (cs := evC ⟨3, n, 0, 0, zer⟩) rfl (evC_len _) (by decide) H fun u2 w H => ?_
  refine bn_appendR H Has.n4 (H.slAt Has.n0) rfl (evC_one _) (by omega) (by unfold maxLen; omega) (by omega) fun ev' w H => ?_
  (with_reducible (repeat (first | refine pu_st ?_ | refine bn_st ?_)))
  obtain ⟨a3, cap3, he3, -⟩ := H.slAt Has.n0
  refine bn_store1 H Has.n3 (by simp) (by rw [he3]; rfl) fun w H => ?_
  refine ⟨rfl, ?_⟩
  rw [show pendH (y, .slice a1 y.p.length cap1) = pendH ({ y with mark := y.p.length }, .slice a1 y.p.length cap1) from rfl] at H
  have h6 := ((H.get Has.n2).tail).pull (ps := [_, _, _, _, _]) (.cons Has.n0 (.cons Has.n1 (.cons Has.n1 (.cons Has.n0 (.cons Has.n0 .nil)))))
  refine Sat.shutRLine (bl := bl) (span := M.span) (E := M.ev ++ [⟨3, n, 0, 0, zer⟩]) (y' := { y with mark := y.p.length }) (p' := .slice a1 y.p.length cap1) (ev := ev') hy hps hp hcap hsp ?_
  simpa [opR] using h6

theorem rsettle_sp {y : LineS} (k : Nat) (hy : M.L[n]? = some y) (hyok : y.ok) (hsd : y.sound) (hk : k ≤ y.p.length) (hT : TabC c) (H : Sat c (RMemH r M :: Γ) w) :
    Calls Tryz.prog 96 #[.pointer (some ⟨r, 0, none⟩), .int .i64 (n : Int), .int .i64 (k : Int)] w (Rt fun _ w' => Sat c (RMemH r ⟨M.L.set n (settleL y k), M.span, M.ev⟩ :: Γ) w') := by
  refine alumref04_Memory_settle_ok ?_
  unfold alumref04_Memory_settle_w
  have hlt : n < M.L.length := (List.getElem?_eq_some_iff.1 hy).1
  (with_reducible (repeat (first | refine pu_st ?_ | refine bn_st ?_)))
  refine condD (fun h0 => ?_) (fun h0 => ?_)
  · have : k = 0 := by omega
    subst this
    have hset : M.L.set n y = M.L := by
      apply List.ext_getElem?
      intro i
      by_cases hi : i = n
      · subst hi; rw [set_at hy, hy]
      · rw [List.getElem?_set_ne (fun e => hi e.symm)]
    unfold settleL
    rw [if_pos rfl, hset]
    exact H
  have hk0 : k ≠ 0 := by omega
  have hf0 : (fix y.x y.c).2.2 = 0 := hsd (fun e => by rw [e] at hk; simp at hk; omega)
  have hsl : settleL y k = ⟨showW (fix y.x y.c).1 (y.p.take k), enc (showW (fix y.x y.c).1 (y.p.take k)), y.p.drop k, max 0 (y.mark - k)⟩ := by
    unfold settleL showL; rw [if_neg hk0, if_pos hf0]
  rw [hsl]
  have hfew := hyok.few
  have hm0 := hyok.m0
  have hm1 := hyok.m1
  obtain ⟨bl, cap, sp, ps, a1, cap1, ev, hps, hp, hcap, hsp, hle1, hz, hlen, H⟩ := H.openRLine hy
  (with_reducible (repeat (first | refine pu_st ?_ | refine bn_st ?_)))
  (refine bn_load1 (Sat.cell H Has.n0 rfl) ?_; (with_reducible (repeat (first | refine pu_st ?_ | refine bn_st ?_))))
  refine pu_indexN hlt ?_
  rw [Nat.zero_add]
  refine bn_loadN (vs := lnC (y, .slice a1 y.p.length cap1)) (H.cells Has.n1 fun j v hj => ?_) rfl ?_
  · have hj11 : j < 11 := by
      have := (List.getElem?_eq_some_iff.1 hj).1
      rwa [lnC_len] at this
    rw [lineCell hz sp j hj11]; exact hj
  refine bn_alloc H fun b5 w H => ?_
  refine bn_storeN (vs := lnC (y, .slice a1 y.p.length cap1)) H Has.n0 rfl (by simp [lnC]) (lnC_one rfl) fun w H => ?_
  replace H : Sat c (blk b5 (lnC (y, .slice a1 y.p.length cap1)) 91 :: opR r bl M.L.length cap sp (M.L.zip ps) n (y, .slice a1 y.p.length cap1) M.span ev M.ev Γ) w := H
  (with_reducible (repeat (first | refine pu_st ?_ | refine bn_st ?_)))
  refine bn_loadN (vs := w8C y.x) (H.cells Has.n0 ?_) rfl ?_
  · intro j v hj
    rcases j with _ | _ | _ | _ | _ | _ | _ | _ | j <;> first | exact hj | (simp [w8C] at hj)
  (with_reducible (repeat (first | refine pu_st ?_ | refine bn_st ?_)))
  (refine bn_load1 (Sat.cell H Has.n0 rfl) ?_; (with_reducible (repeat (first | refine pu_st ?_ | refine bn_st ?_))))
  refine Cl.of (by kernel_rfl) (of_RetB H (rFix_any y.x y.c w)) ?_
  rintro _ w ⟨rfl, H⟩
  (with_reducible (repeat (first | refine pu_st ?_ | refine bn_st ?_)))
  refine bn_alloc H fun b6 w H => ?_
  generalize hf : fix y.x y.c = f
  refine bn_storeN (vs := w8C f.1) H Has.n0 rfl (by simp [w8C]) (w8C_one _) fun w H => ?_
  replace H : Sat c (blk b6 (w8C f.1) 80 :: blk b5 (lnC (y, .slice a1 y.p.length cap1)) 91 :: opR r bl M.L.length cap sp (M.L.zip ps) n (y, .slice a1 y.p.length cap1) M.span ev M.ev Γ) w := H
  refine ⟨fun v w => ∃ i : Nat, i ≤ k ∧ v = .int .i64 (i : Int) ∧ Sat c (blk b6 (w8C (showW f.1 (y.p.take i))) 80 :: blk b5 (lnC (y, .slice a1 y.p.length cap1)) 91 :: opR r bl M.L.length cap sp (M.L.zip ps) n (y, .slice a1 y.p.length cap1) M.span ev M.ev Γ) w, fun v _ => k - (intOf v).toNat, ⟨0, Nat.zero_le _, rfl, by simpa [showW] using H⟩, ?_⟩
  intros
  rename_i w hI
  obtain ⟨i, hi, rfl, H⟩ := hI
  (with_reducible (repeat (first | refine pu_st ?_ | refine bn_st ?_)))
  refine condD (fun hlt2 => ?_) (fun hlt2 => ?_)
  · have hlt2 : i < y.p.length := by omega
    obtain ⟨s, hs⟩ : ∃ s, y.p[i]? = some s := ⟨y.p[i]'(by omega), List.getElem?_eq_getElem _⟩
    obtain ⟨hs0, hs1⟩ := hyok.word s (List.mem_of_getElem? hs)
    have hpa : ∀ {w : World}, Sat c (blk b6 (w8C (showW f.1 (y.p.take i))) 80 :: blk b5 (lnC (y, .slice a1 y.p.length cap1)) 91 :: opR r bl M.L.length cap sp (M.L.zip ps) n (y, .slice a1 y.p.length cap1) M.span ev M.ev Γ) w → slAt w (.slice a1 y.p.length cap1) y.p.length ((y.p.map stC).flatten) := fun H =>
      (show Sat c (_ :: _ :: _ :: _ :: ownS 118 2 (.slice a1 y.p.length cap1) y.p.length ((y.p.map stC).flatten) :: _) _ from H).slAt Has.n4
    obtain ⟨b1, o1, cap2, e, -, -⟩ := slAt.elem (enc := stC) stC_len (hpa H) hs
    cases e
    have hcell : ∀ {w : World}, Sat c (blk b6 (w8C (showW f.1 (y.p.take i))) 80 :: blk b5 (lnC (y, .slice (some ⟨b1, o1, none⟩) y.p.length cap1)) 91 :: opR r bl M.L.length cap sp (M.L.zip ps) n (y, .slice (some ⟨b1, o1, none⟩) y.p.length cap1) M.span ev M.ev Γ) w → cellsAt w b1 (o1 + i * 2) (stC s) := fun H => by
      obtain ⟨b', o', cap', e, -, hc⟩ := slAt.elem (enc := stC) stC_len (hpa H) hs
      cases e; exact hc
    (refine ⟨Sat _ _, Sat _ _, Sat.drew H, fun _ h => h, ?_⟩; (with_reducible (repeat (first | refine pu_st ?_ | refine bn_st ?_))))
    (refine ⟨_, fun w H => run_load1 (H.cell Has.n1 rfl), ?_⟩; (with_reducible (repeat (first | refine pu_st ?_ | refine bn_st ?_))))
    refine pu_indexN hlt2 ?_
    (with_reducible (repeat (first | refine pu_st ?_ | refine bn_st ?_)))
    (refine ⟨_, fun w H => run_load1 (hcell H 0 _ rfl), ?_⟩; (with_reducible (repeat (first | refine pu_st ?_ | refine bn_st ?_))))
    (refine ⟨_, fun w H => run_load1 (H.cell Has.n1 rfl), ?_⟩; (with_reducible (repeat (first | refine pu_st ?_ | refine bn_st ?_))))
    refine pu_indexN hlt2 ?_
    (with_reducible (repeat (first | refine pu_st ?_ | refine bn_st ?_)))
    (refine ⟨_, fun w H => run_load1 (hcell H 1 _ rfl), ?_⟩; (with_reducible (repeat (first | refine pu_st ?_ | refine bn_st ?_))))
    refine pu_indexA hs0 (by omega) ?_
    (refine ⟨fun w H => ?_, trivial⟩; (with_reducible (repeat (first | refine pu_st ?_ | refine bn_st ?_))))
    refine bn_store1 H Has.n0 (by simp [w8C]; omega) rfl fun w H => ?_
    (refine ⟨Sat _ _, Sat _ _, H, fun _ h => h, (by first | trivial | exact fun _ h => h | exact fun _ h => h.tail | exact fun _ h => h.tail.tail), ?_⟩; (with_reducible (repeat (first | refine pu_st ?_ | refine bn_st ?_))))
    (intro w H; (with_reducible (repeat (first | refine pu_st ?_ | refine bn_st ?_))))
    refine pu_succ (by omega) ?_
    refine ⟨⟨i + 1, by omega, rfl, ?_⟩, by simp [intOf]; omega⟩
    rw [take_succ_of hs, showW_snoc, ← w8C_set _ _ _ (by omega)]
    simpa using H
  · have : i = k := by omega
    subst this
    generalize hx : showW f.1 (y.p.take i) = x at H ⊢
    refine bn_buildSlice (cs := []) (fun z hz => ⟨by omega, by simp [Instr.fill]⟩) (by simp) H fun u0 w H => ?_
    (with_reducible (repeat (first | refine pu_st ?_ | refine bn_st ?_)))
    refine bn_load1 (v := .slice a1 y.p.length cap1) (H.cell (cs := lnC (y, .slice a1 y.p.length cap1)) (t := 91) Has.n2 rfl) ?_
    refine pu_sliceL (by omega) (by omega) ?_
    simp only [Int.toNat_natCast]
    have hpa := slAt.drop (s := 2) ((show Sat c (_ :: _ :: _ :: _ :: _ :: ownS 118 2 (.slice a1 y.p.length cap1) y.p.length ((y.p.map stC).flatten) :: _) w from H).slAt Has.n5) hk
    rw [drop_rows stC_len] at hpa
    refine bn_appendR H Has.n0 hpa (by rw [rows_length stC 2 stC_len, List.length_drop]) (all_one_rows stC _ stC_one) (by omega) (by unfold maxLen; omega) (by omega) fun p' w H => ?_
    obtain ⟨a2, cap2, hp2, -⟩ := H.slAt Has.n0
    -- p', b6, b5, r, bl, pendH, ev, big
    (refine ⟨Sat _ _, Sat _ _, Sat.drew H, fun _ h => h, ?_⟩; (with_reducible (repeat (first | refine pu_st ?_ | refine bn_st ?_))))
    (refine ⟨_, fun w H => run_load1 (H.cell Has.n3 rfl), ?_⟩; (with_reducible (repeat (first | refine pu_st ?_ | refine bn_st ?_))))
    refine ⟨_, fun w H => run_loadN (vs := w8C x) rfl (H.cells0 Has.n1), ?_⟩
    refine ⟨_, fun w H => run_loadN (vs := w8C x) rfl (H.cells0 Has.n1), ?_⟩
    (with_reducible (repeat (first | refine pu_st ?_ | refine bn_st ?_)))
    refine ⟨.int .i64 y.mark, fun w H => run_load1 (H.cell (cs := lnC (y, .slice a1 y.p.length cap1)) (t := 91) Has.n2 rfl), ?_⟩
    refine pu_sub (by unfold i64; omega) ?_
    (with_reducible (repeat (first | refine pu_st ?_ | refine bn_st ?_)))
    (refine ⟨fun w H => ?_, trivial⟩; (with_reducible (repeat (first | refine pu_st ?_ | refine bn_st ?_))))
    refine Cl.of (by kernel_rfl) (of_RetB H (rencode_any x.a0 x.a1 x.a2 x.a3 x.a4 x.a5 x.a6 x.a7 w)) ?_
    rintro _ w ⟨rfl, H⟩
    rw [show (⟨x.a0, x.a1, x.a2, x.a3, x.a4, x.a5, x.a6, x.a7⟩ : W8) = x from rfl]
    (refine ⟨Sat _ _, Sat _ _, H, fun _ h => h, (by first | trivial | exact fun _ h => h | exact fun _ h => h.tail | exact fun _ h => h.tail.tail), ?_⟩; (with_reducible (repeat (first | refine pu_st ?_ | refine bn_st ?_))))
    refine pu_build (cs := lnC (⟨x, enc x, y.p.drop i, max 0 (y.mark - i)⟩, p')) (by rw [hp2]; kernel_rfl) ?_
    refine pu_indexN hlt ?_
    simp only [Nat.zero_add]
    (refine ⟨fun w H => ?_, trivial⟩; (with_reducible (repeat (first | refine pu_st ?_ | refine bn_st ?_))))
    refine bn_storeN (vs := lnC (⟨x, enc x, y.p.drop i, max 0 (y.mark - i)⟩, p')) H Has.n4 rfl ?_ (lnC_one (by rw [hp2]; rfl)) fun w H => ?_
    · have := hlen (y, .slice a1 y.p.length cap1)
      rw [lnC_len]; omega
    (refine ⟨Sat _ _, Sat _ _, H, fun _ h => h, (by first | trivial | exact fun _ h => h | exact fun _ h => h.tail | exact fun _ h => h.tail.tail), ?_⟩; (with_reducible (repeat (first | refine pu_st ?_ | refine bn_st ?_))))
    (intro w H; (with_reducible (repeat (first | refine pu_st ?_ | refine bn_st ?_))))
    have e1 := lineWr (z' := (y, .slice a1 y.p.length cap1)) (z'' := (⟨x, enc x, y.p.drop i, max 0 (y.mark - i)⟩, p')) hz sp 0 (lnC (⟨x, enc x, y.p.drop i, max 0 (y.mark - i)⟩, p')) (by rw [lnC_len]; omega) rfl
    rw [Nat.add_zero] at e1
    rw [e1] at H
    have epd : pendH (⟨x, enc x, y.p.drop i, max 0 (y.mark - i)⟩, p') = ownS 118 2 p' (y.p.length - i) ([] ++ ((y.p.drop i).map stC).flatten) := by unfold pendH; simp
    rw [← epd] at H
    have h6 := ((((((H.get Has.n5).tail).get Has.n3).tail).get Has.n2).tail).pull (ps := [_, _, _, _, _]) (.cons Has.n2 (.cons Has.n0 (.cons Has.n0 (.cons Has.n0 (.cons Has.n0 .nil)))))
    exact Sat.shutRLine (bl := bl) (span := M.span) (E := M.ev) (y' := ⟨x, enc x, y.p.drop i, max 0 (y.mark - i)⟩) (p' := p') (ev := ev) hy hps hp hcap hsp h6

theorem rFence_sp (hok : M.ok) (hsd : ∀ y ∈ M.L, y.sound) (hT : TabC c) (H : Sat c (RMemH r M :: Γ) w) :
    Calls Tryz.prog 73 #[.pointer (some ⟨r, 0, none⟩)] w (Rt fun _ w' => Sat c (RMemH r (fenceM M) :: Γ) w') := by
  refine alumref04_Memory_Fence_ok ?_
  unfold alumref04_Memory_Fence_w
  have hl4 := hok.lines
  refine ⟨fun v w => ∃ i : Nat, i ≤ M.L.length ∧ v = .int .i64 (i : Int) ∧ Sat c (RMemH r ⟨(M.L.take i).map settleM ++ M.L.drop i, M.span, M.ev⟩ :: Γ) w, fun v _ => M.L.length - (intOf v).toNat, ⟨0, Nat.zero_le _, rfl, by simpa using H⟩, ?_⟩
  intros
  rename_i w hI
  obtain ⟨i, hi, rfl, H⟩ := hI
  have hlL : ((M.L.take i).map settleM ++ M.L.drop i).length = M.L.length := by simp; omega
  obtain ⟨lv, ps, ev, h1, Ho⟩ := H.openRM
  obtain ⟨a, cap, rfl, -⟩ := Ho.slAt Has.n1
  (with_reducible (repeat (first | refine pu_st ?_ | refine bn_st ?_)))
  refine bn_load1 (Ho.cell Has.n0 rfl) ?_
  (with_reducible (repeat (first | refine pu_st ?_ | refine bn_st ?_)))
  refine condD (fun hlt => ?_) (fun hlt => ?_)
  · have hlt : i < M.L.length := by rw [hlL] at hlt; omega
    obtain ⟨y, hy⟩ : ∃ y, M.L[i]? = some y := ⟨M.L[i]'hlt, List.getElem?_eq_getElem _⟩
    have hy' : ((M.L.take i).map settleM ++ M.L.drop i)[i]? = some y := by
      rw [List.getElem?_append_right (by rw [List.length_map, List.length_take]; omega), List.getElem?_drop]
      simp only [List.length_map, List.length_take]
      rw [show i + (i - min i M.L.length) = i by omega]; exact hy
    have hyok := hok.line y (List.mem_of_getElem? hy)
    have hm0 := hyok.m0
    have hm1 := hyok.m1
    obtain ⟨bl, cap2, sp, ps2, a1, cap1, ev2, hps, hp, hcap, hsp, hle1, hz, hlen, Hl⟩ := H.openRLine hy'
    (with_reducible (repeat (first | refine pu_st ?_ | refine bn_st ?_)))
    refine bn_load1 (Hl.cell Has.n0 rfl) ?_
    refine pu_indexN (by rw [hlL]; exact hlt) ?_
    rw [Nat.zero_add]
    (with_reducible (repeat (first | refine pu_st ?_ | refine bn_st ?_)))
    refine bn_load1 (v := .int .i64 y.mark) (Hl.cell Has.n1 (by rw [lineCell hz sp 10 (by omega)]; rfl)) ?_
    rw [show y.mark = ((y.mark.toNat : Nat) : Int) by omega]
    refine Cl.of alumref04_Memory_settle_en (rsettle_sp (M := ⟨(M.L.take i).map settleM ++ M.L.drop i, M.span, M.ev⟩) y.mark.toNat hy' hyok (hsd y (List.mem_of_getElem? hy)) (by omega) hT H) ?_
    rintro _ w H
    refine pu_succ (by omega) ?_
    refine ⟨⟨i + 1, by omega, rfl, ?_⟩, by simp [intOf]; omega⟩
    have e : ((M.L.take i).map settleM ++ M.L.drop i).set i (settleL y y.mark.toNat) = (M.L.take (i + 1)).map settleM ++ M.L.drop (i + 1) := by
      have hye := (List.getElem?_eq_some_iff.1 hy).2
      rw [List.drop_eq_getElem_cons hlt, List.set_append_right _ _ (by rw [List.length_map, List.length_take]; omega), take_succ_of hy, List.map_append, List.append_assoc]
      simp only [List.length_map, List.length_take]
      rw [show i - min i M.L.length = 0 by omega, List.set_cons_zero]
      rfl
    rw [← e]
    exact H
  · have hiL : i = M.L.length := by rw [hlL] at hlt; omega
    subst hiL
    (with_reducible (repeat (first | refine pu_st ?_ | refine bn_st ?_)))
    refine bn_load1 (Ho.cell Has.n0 rfl) ?_
    refine pu_build (cs := evC ⟨4, 0, 0, 0, zer⟩) (by kernel_rfl) ?_
    refine bn_one (cs := evC ⟨4, 0, 0, 0, zer⟩) rfl (evC_len _) (by decide) Ho fun u2 w H => ?_
    refine bn_appendR H Has.n3 (H.slAt Has.n0) rfl (evC_one _) (by have h : M.ev.length ≤ 1000000 := hok.evs; show (M.ev.length + 1) * _ ≤ _; omega) (by have h : M.ev.length ≤ 1000000 := hok.evs; show M.ev.length + 1 ≤ _; unfold maxLen; omega) (by omega) fun ev' w H => ?_
    (with_reducible (repeat (first | refine pu_st ?_ | refine bn_st ?_)))
    obtain ⟨a3, cap3, he3, -⟩ := H.slAt Has.n0
    refine bn_store1 H Has.n2 (by simp) (by rw [he3]; rfl) fun w H => ?_
    have h6 := ((H.get Has.n2).tail).pull (ps := [_, _, _, _]) (.cons Has.n0 (.cons Has.n1 (.cons Has.n0 (.cons Has.n0 .nil))))
    have h7 : Sat c (RMemH r ⟨(M.L.take M.L.length).map settleM ++ M.L.drop M.L.length, M.span, M.ev ++ [⟨4, 0, 0, 0, zer⟩]⟩ :: Γ) w := by
      refine Sat.shutRM (lv := .slice a ((M.L.take M.L.length).map settleM ++ M.L.drop M.L.length).length cap) (ev := ev') (ps := ps) h1 ?_
      simpa using h6
    rw [List.take_length, List.drop_length, List.append_nil] at h7
    exact h7

theorem rSeen_sp {lv ev : Value} {ps : List Value} (hok : M.ok) (R : RMemR c r M lv ps ev) (hT : TabC c) (H : Sat c Γ w) :
    Calls Tryz.prog 34 #[.pointer (some ⟨r, 0, none⟩)] w (Rt fun u w' => Sat c (ownS 80 8 u M.L.length ((M.L.map seenC).flatten) :: Γ) w') := by
  have h1 := R.top
  have hl4 := hok.lines
  obtain ⟨a, cap, rfl, -⟩ := R.sl H
  refine alumref04_Memory_Seen_ok ?_
  unfold alumref04_Memory_Seen_w
  refine ⟨fun u v w => ∃ i : Nat, i ≤ M.L.length ∧ v = .int .i64 (i : Int) ∧ Sat c (ownS 80 8 u i (((M.L.take i).map seenC).flatten) :: Γ) w, fun _ v _ => M.L.length - (intOf v).toNat, ⟨0, Nat.zero_le _, rfl, Sat.nilS none H⟩, ?_⟩
  intros
  rename_i w hI
  obtain ⟨i, hi, rfl, H⟩ := hI
  (with_reducible (repeat (first | refine pu_st ?_ | refine bn_st ?_)))
  (refine bn_load1 (At.cell h1 H rfl) ?_; (with_reducible (repeat (first | refine pu_st ?_ | refine bn_st ?_))))
  refine condD (fun hlt => ?_) (fun hlt => ?_)
  · have hlt : i < M.L.length := by omega
    obtain ⟨y, hy⟩ : ∃ y, M.L[i]? = some y := ⟨M.L[i]'hlt, List.getElem?_eq_getElem _⟩
    refine Cl.of alumref04_Memory_Shows_en (rShows_sp hy (hok.line y (List.mem_of_getElem? hy)) R hT H) ?_
    rintro _ w ⟨rfl, H⟩
    refine bn_one (cs := seenC y) rfl (seenC_len y) (by first | decide | omega | (rw [seenC_len]; omega)) H fun u w H => ?_
    refine bn_appendR H Has.n1 (H.slAt Has.n0) (seenC_len y) (w8C_one _) (by omega) (by unfold maxLen; omega) (by omega) fun u' w H => ?_
    refine pu_succ (by omega) ?_
    refine ⟨⟨i + 1, by omega, rfl, ?_⟩, by simp [intOf]; omega⟩
    have h9 := (H.get Has.n1).tail
    rw [take_succ_of hy]
    simpa using h9
  · have : i = M.L.length := by omega
    subst this
    rw [List.take_length] at H
    exact H

end

end Go.Proofs.YtlolaieolgmdnaaGreatDoor
