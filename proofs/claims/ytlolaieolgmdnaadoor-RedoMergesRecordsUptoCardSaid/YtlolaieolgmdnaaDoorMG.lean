/-
  The memory under test, changed: note, put, Store, Flush, Forget.
-/
import Derived.Test.YtlolaieolgmdnaaDoorMF

namespace Go.Proofs.YtlolaieolgmdnaaDoor

open Go.RowKit
set_option linter.unusedVariables false
set_option linter.unusedSimpArgs false
set_option maxRecDepth 10000

theorem evC_one (e : Ev) : ∀ v ∈ evC e, v.oneCell' = true := by simp [evC, Value.oneCell']

/-- A store, a publication. -/
def putM (M : MemS) (kind at' v : Int) : Int × MemS :=
  if at' < 0 then (40, M) else
    match M.L[at'.toNat / 8]? with
    | none => (40, M)
    | some y => if okW v = false then (1, M) else if (chk y.x y.c).1 = 2 then (9, M) else
      (0, ⟨M.L.set (at'.toNat / 8) { y with p := y.p ++ [(((at'.toNat % 8 : Nat) : Int), v)] }, M.span, M.ev ++ [⟨kind, at', v, M.span, zer⟩]⟩)
def flushM (M : MemS) (k : Int) : Int × MemS :=
  if k < 0 then (40, M) else
    match M.L[k.toNat]? with
    | none => (40, M)
    | some y => (0, ⟨M.L.set k.toNat { y with mark := y.p.length }, M.span, M.ev ++ [⟨3, k, 0, 0, zer⟩]⟩)

section

variable {c : Cx} {Γ Δ : List HProp} {w : World} {m : Nat} {M : MemS} {bl cap mb ck : Nat} {sp : List Value} {Z : List (LineS × Value)} {n : Nat} {es : Array MapEntry} {span : Int} {ev : Value} {E : List Ev} {L : List LineS}

theorem note_sp (e : Ev) (hE : M.ev.length ≤ 1000000) (H : Sat c (MemE m M mb es ck :: Γ) w) :
    Calls Tryd.prog 52 #[.pointer (some ⟨m, 0, none⟩), .agg (evC e).toArray] w (Rt fun _ w' => Sat c (MemE m ⟨M.L, M.span, M.ev ++ [e]⟩ mb es ck :: Γ) w') := by
  refine memory_Memory_note_ok ?_
  unfold memory_Memory_note_w
  obtain ⟨lv, ps, ev, h1, h2, H⟩ := H.openME
  refine bn_box (z := evC e) rfl H fun b w H => ?_
  (refine ⟨Sat _ _, Sat _ _, Sat.drew H, fun _ h => h, ?_⟩; (with_reducible (repeat (first | refine pu_st ?_ | refine bn_st ?_))))
  (refine ⟨_, fun w H => run_load1 (H.cell Has.n1 rfl), ?_⟩; (with_reducible (repeat (first | refine pu_st ?_ | refine bn_st ?_))))
  (refine ⟨_, fun w H => run_loadN rfl (H.cells0 Has.n0), ?_⟩; (with_reducible (repeat (first | refine pu_st ?_ | refine bn_st ?_))))
  (refine ⟨fun w H => ?_, trivial⟩; (with_reducible (repeat (first | refine pu_st ?_ | refine bn_st ?_))))
  refine bn_one (cs := evC e) rfl (evC_len e) (by decide) H fun u w H => ?_
  (refine ⟨Sat _ _, Sat _ _, H, fun _ h => h, (by first | trivial | exact fun _ h => h | exact fun _ h => h.tail | exact fun _ h => h.tail.tail), ?_⟩; (with_reducible (repeat (first | refine pu_st ?_ | refine bn_st ?_))))
  (refine ⟨fun w H => ?_, trivial⟩; (with_reducible (repeat (first | refine pu_st ?_ | refine bn_st ?_))))
  refine bn_appendR H Has.n5 (H.slAt Has.n0) rfl (evC_one e) (by omega) (by unfold maxLen; omega) (by omega) fun ev' w H => ?_
  (refine ⟨Sat _ _, Sat _ _, H, fun _ h => h, (by first | trivial | exact fun _ h => h | exact fun _ h => h.tail | exact fun _ h => h.tail.tail), ?_⟩; (with_reducible (repeat (first | refine pu_st ?_ | refine bn_st ?_))))
  (refine ⟨fun w H => ?_, trivial⟩; (with_reducible (repeat (first | refine pu_st ?_ | refine bn_st ?_))))
  refine bn_store1 H Has.n3 (by simp) ?_ fun w H => ?_
  · obtain ⟨a, cap, rfl, -⟩ := H.slAt Has.n0; rfl
  (refine ⟨Sat _ _, Sat _ _, H, fun _ h => h, (by first | trivial | exact fun _ h => h | exact fun _ h => h.tail | exact fun _ h => h.tail.tail), ?_⟩; (with_reducible (repeat (first | refine pu_st ?_ | refine bn_st ?_))))
  (intro w H; (with_reducible (repeat (first | refine pu_st ?_ | refine bn_st ?_))))
  refine Sat.shutME (lv := lv) (ev := ev') (ps := ps) h1 h2 ?_
  have h9 := (((H.get Has.n2).tail).get Has.n2).tail
  have h8 := h9.pull (ps := [_, _, _, _]) (.cons Has.n0 (.cons Has.n1 (.cons Has.n1 (.cons Has.n0 .nil))))
  simpa using h8

/-- A memory that is lent, and given back. -/
theorem Sat.lentM (H : Sat c (MemE m M mb es ck :: Γ) w) (hT : TabC c) : ∃ (c' : Cx) (lv : Value) (ps : List Value) (ev : Value), MemR c' m M lv ps mb es ck ev ∧ TabC c' ∧ (∀ q, At c q → At c' q) ∧ Sat c' Γ w ∧
    ∀ {Δ : List HProp} {w' : World}, Sat c' Δ w' → Sat c (MemE m M mb es ck :: Δ) w' := by
  obtain ⟨c', hA, hm, H', back⟩ := H.lent
  obtain ⟨f, ⟨lv, ps, ev, h1, h2, h3⟩, hs⟩ := hA
  have hA : At c' (big [blk m [lv, .map (some mb), .int .i64 M.span, ev] 61, ownS 57 11 lv M.L.length (((M.L.zip ps).map lnC).flatten), obj mb (.map es ck),
    ownS 77 12 ev M.ev.length ((M.ev.map evC).flatten), big ((M.L.zip ps).map pendH)]) := ⟨f, h3, hs⟩
  have hq := At.open (Δ := [_, _, _, _, _]) hA fun _ h => h
  refine ⟨c', lv, ps, ev, ⟨h1, h2, hq _ (by simp), hq _ (by simp), hq _ (by simp), hq _ (by simp), ?_⟩, fun H => hT (back H), hm, H', back⟩
  have hp := At.open (Δ := (M.L.zip ps).map pendH) (hq (big ((M.L.zip ps).map pendH)) (by simp)) fun _ h => h
  intro y hy
  exact hp _ (List.mem_map.2 ⟨y, hy, rfl⟩)

theorem put_sp (kind at' v : Int) (hat : i64 at') (hfew : ∀ y ∈ M.L, y.p.length ≤ 1000000) (hE : M.ev.length ≤ 1000000) (hT : TabC c) (H : Sat c (MemH m M :: Γ) w) :
    Calls Tryd.prog 51 #[.pointer (some ⟨m, 0, none⟩), .int .i64 kind, .int .i64 at', .int .i64 v, .func (.func 52) #[.pointer (some ⟨m, 0, none⟩)] #[]] w
      (Rt fun u w' => u = .int .i64 (putM M kind at' v).1 ∧ Sat c (MemH m (putM M kind at' v).2 :: Γ) w') := by
  refine memory_Memory_put_ok ?_
  unfold memory_Memory_put_w
  refine pu_quo (by omega) (tdiv_i64 hat) ?_
  (with_reducible (repeat (first | refine pu_st ?_ | refine bn_st ?_)))
  refine condD (fun h0 => ?_) (fun h0 => ?_)
  · unfold putM; rw [if_pos h0]; exact ⟨rfl, H⟩
  obtain ⟨N, rfl⟩ : ∃ N : Nat, at' = N := ⟨at'.toNat, by omega⟩
  have hput : putM M kind N v = match M.L[N / 8]? with
    | none => (40, M)
    | some y => if okW v = false then (1, M) else if (chk y.x y.c).1 = 2 then (9, M) else
      (0, ⟨M.L.set (N / 8) { y with p := y.p ++ [(((N % 8 : Nat) : Int), v)] }, M.span, M.ev ++ [⟨kind, N, v, M.span, zer⟩]⟩) := by
    unfold putM; rw [if_neg h0]; simp only [Int.toNat_natCast]
  rw [hput, tdiv_nat]
  obtain ⟨mb, es, ck, H⟩ := H.nameM
  obtain ⟨c1, lv, ps, ev, R, hT1, m1, H1, back⟩ := H.lentM hT
  refine Cl.of memory_Memory_has_en (has_sp _ R H1) ?_
  rintro _ w ⟨rfl, H1⟩
  (with_reducible (repeat (first | refine pu_st ?_ | refine bn_st ?_)))
  refine condND (fun hk => ?_) (fun hk => ?_)
  · rw [List.getElem?_eq_none (by omega)]; exact ⟨rfl, (back H1).hideM⟩
  obtain ⟨y, hy⟩ : ∃ y, M.L[N / 8]? = some y := ⟨M.L[N / 8]'(by omega), List.getElem?_eq_getElem _⟩
  have hlt : N / 8 < M.L.length := (List.getElem?_eq_some_iff.1 hy).1
  rw [hy]
  simp only
  refine Cl.of memory_word_en (word_sp v H1) ?_
  rintro _ w ⟨rfl, H1⟩
  (with_reducible (repeat (first | refine pu_st ?_ | refine bn_st ?_)))
  refine condNB (fun hw => ?_) (fun hw => ?_)
  · rw [if_pos hw]; exact ⟨rfl, (back H1).hideM⟩
  rw [if_neg (by simp [hw])]
  refine Cl.of memory_Memory_State_en (State_sp _ R hT1 H1) ?_
  rintro _ w ⟨rfl, H1⟩
  have hst : stateM M.L ((N / 8 : Nat) : Int) = (chk y.x y.c).1 := by
    unfold stateM; rw [if_pos (by omega), Int.toNat_natCast, hy]
  rw [hst]
  (with_reducible (repeat (first | refine pu_st ?_ | refine bn_st ?_)))
  refine condD (fun hs => ?_) (fun hs => ?_)
  · rw [if_pos hs]; exact ⟨rfl, (back H1).hideM⟩
  rw [if_neg hs]
  have H := back H1
  have hfy := hfew y (List.mem_of_getElem? hy)
  obtain ⟨bl, cap, sp, ps, p, ev, hps, hb, hp, hcap, hsp, hpo, H⟩ := H.openLine hy
  have hz : (M.L.zip ps)[N / 8]? = some (y, p) := by rw [List.getElem?_zip_eq_some]; exact ⟨hy, hp⟩
  have hlen : ∀ z' : LineS × Value, N / 8 * 11 + 11 ≤ (((((M.L.zip ps).set (N / 8) z').map lnC).flatten) ++ sp).length := fun z' => by
    rw [List.length_append, rows_length lnC 11 lnC_len, List.length_set]
    have : (N / 8 + 1) * 11 ≤ (M.L.zip ps).length * 11 := Nat.mul_le_mul_right _ (List.getElem?_eq_some_iff.1 hz).1
    omega
  replace H : Sat c (opM m bl M.L.length cap sp (M.L.zip ps) (N / 8) (y, p) mb es ck M.span ev M.ev Γ) w := by
    unfold opM; rw [set_same hz]; exact H
  let R0 : World → Prop := fun w => ∃ Γ', Sat c (blk m [.slice (some ⟨bl, 0, none⟩) M.L.length cap, .map (some mb), .int .i64 M.span, ev] 61 :: blk bl ((((M.L.zip ps).set (N / 8) (y, p)).map lnC).flatten ++ sp) 57 :: Γ') w
  refine ⟨Sat _ _, R0, Sat.drew H, fun _ h => ⟨_, h⟩, ?_⟩
  (with_reducible (repeat (first | refine pu_st ?_ | refine bn_st ?_)))
  refine pu_rem (by omega) ?_
  rw [tmod_nat]
  refine pu_build (cs := stC (((N % 8 : Nat) : Int), v)) (by kernel_rfl) ?_
  refine ⟨_, fun w H => run_load1 (H.choose_spec.cell Has.n0 rfl), ?_⟩
  refine ⟨_, fun w H => run_load1 (H.choose_spec.cell Has.n0 rfl), ?_⟩
  refine pu_indexN hlt ?_
  rw [Nat.zero_add]
  (with_reducible (repeat (first | refine pu_st ?_ | refine bn_st ?_)))
  refine ⟨p, fun w H => run_load1 (H.choose_spec.cell Has.n1 (by rw [lineCell hz sp 9 (by omega)]; rfl)), ?_⟩
  (refine ⟨fun w H => ?_, trivial⟩; (with_reducible (repeat (first | refine pu_st ?_ | refine bn_st ?_))))
  refine bn_one (cs := stC (((N % 8 : Nat) : Int), v)) rfl (stC_len _) (by decide) H fun u w H => ?_
  refine ⟨Sat _ _, R0, H, fun _ h => ⟨_, h.pull (ps := [_, _]) (.cons Has.n1 (.cons Has.n1 .nil))⟩, fun _ h => h, ?_⟩
  (refine ⟨fun w H => ?_, trivial⟩; (with_reducible (repeat (first | refine pu_st ?_ | refine bn_st ?_))))
  refine bn_appendR (xs := (y.p.map stC).flatten) (n := y.p.length) H Has.n3 (H.slAt Has.n0) rfl (stC_one _) (by omega) (by unfold maxLen; omega) (by omega) fun p' w H => ?_
  refine ⟨Sat _ _, R0, H, fun _ h => ⟨_, h.pull (ps := [_, _]) (.cons Has.n2 (.cons Has.n2 .nil))⟩, fun _ h => h, ?_⟩
  refine pu_indexN hlt ?_
  rw [Nat.zero_add]
  (with_reducible (repeat (first | refine pu_st ?_ | refine bn_st ?_)))
  (refine ⟨fun w H => ?_, trivial⟩; (with_reducible (repeat (first | refine pu_st ?_ | refine bn_st ?_))))
  obtain ⟨a2, cap2, hp2, -⟩ := H.slAt Has.n0
  refine bn_store1 H Has.n3 (by have := hlen (y, p); omega) (by rw [hp2]; rfl) fun w H => ?_
  (refine ⟨Sat _ _, Sat _ _, H, fun _ h => h, (by first | trivial | exact fun _ h => h | exact fun _ h => h.tail | exact fun _ h => h.tail.tail), ?_⟩; (with_reducible (repeat (first | refine pu_st ?_ | refine bn_st ?_))))
  (intro w H; (with_reducible (repeat (first | refine pu_st ?_ | refine bn_st ?_))))
  rw [lineSet (z' := (y, p)) (z'' := ({ y with p := y.p ++ [(((N % 8 : Nat) : Int), v)] }, p')) hz sp 9 p' (by omega) rfl] at H
  refine bn_load1 (H.cell Has.n3 rfl) ?_
  have H2 := ((H.get Has.n2).tail).pull (ps := [_, _, _, _]) (.cons Has.n2 (.cons Has.n0 (.cons Has.n0 (.cons Has.n0 .nil))))
  have hpne : ({ y with p := y.p ++ [(((N % 8 : Nat) : Int), v)] } : LineS).p ≠ [] := by simp
  have hshut := fun {es : Array MapEntry} {ck : Nat} {w : World} (hb : BusyOk es ck (M.L.set (N / 8) { y with p := y.p ++ [(((N % 8 : Nat) : Int), v)] })) (H : Sat c (opM m bl M.L.length cap sp (M.L.zip ps) (N / 8) ({ y with p := y.p ++ [(((N % 8 : Nat) : Int), v)] }, p') mb es ck M.span ev M.ev Γ) w) =>
    Sat.shutLine (span := M.span) (E := M.ev) hy hps (fun h => absurd h hpne) hp hcap hsp hb H
  have hend : ∀ {es : Array MapEntry} {ck : Nat} {w : World}, BusyOk es ck (M.L.set (N / 8) { y with p := y.p ++ [(((N % 8 : Nat) : Int), v)] }) → Sat c (opM m bl M.L.length cap sp (M.L.zip ps) (N / 8) ({ y with p := y.p ++ [(((N % 8 : Nat) : Int), v)] }, p') mb es ck M.span ev M.ev Γ) w →
      Pu Tryd.prog (nilC (.pointer (some ⟨m, 0, none⟩))) fun t63 => Pu Tryd.prog (Instr.fieldAt 61 t63 2) fun t64 => Bn Tryd.prog (Instr.loadAt 3 t64) w fun t65 w_23 =>
        Pu Tryd.prog (Instr.build 77 #[(0, .int .i64 kind), (1, .int .i64 N), (2, .int .i64 v), (3, t65)]) fun t66 => Clv Tryd.prog (.func (.func 52) #[.pointer (some ⟨m, 0, none⟩)] #[]) #[t66] w_23 fun t67 w_24 =>
          (.int .i64 0 : Value) = .int .i64 0 ∧ Sat c (MemH m ⟨M.L.set (N / 8) { y with p := y.p ++ [(((N % 8 : Nat) : Int), v)] }, M.span, M.ev ++ [⟨kind, N, v, M.span, zer⟩]⟩ :: Γ) w_24 := by
    intro es ck w hb H
    (with_reducible (repeat (first | refine pu_st ?_ | refine bn_st ?_)))
    (refine bn_load1 (Sat.cell H Has.n0 rfl) ?_; (with_reducible (repeat (first | refine pu_st ?_ | refine bn_st ?_))))
    refine pu_build (cs := evC ⟨kind, N, v, M.span, zer⟩) (by kernel_rfl) ?_
    refine Clv.of (Cl.of memory_Memory_note_en (note_sp (M := ⟨M.L.set (N / 8) { y with p := y.p ++ [(((N % 8 : Nat) : Int), v)] }, M.span, M.ev⟩) ⟨kind, N, v, M.span, zer⟩ hE (hshut hb H)) ?_)
    rintro _ w H
    exact ⟨rfl, H.hideM⟩
  have epd : pendH ({ y with p := y.p ++ [(((N % 8 : Nat) : Int), v)] }, p') = ownS 80 2 p' (y.p.length + 1) ((y.p.map stC).flatten ++ stC (((N % 8 : Nat) : Int), v)) := by unfold pendH; simp
  rw [← epd] at H2
  refine bn_mapPut H2 Has.n3 hb.ints (fun hno w H => ?_) (fun j x hj hx w H => ?_)
  · exact hend (hb.push hy hpne hno) (H.pull (ps := [_, _, _, _]) (.cons Has.n1 (.cons Has.n1 (.cons Has.n1 (.cons Has.n0 .nil)))))
  · exact hend (hb.turn hy hpne hj hx) (H.pull (ps := [_, _, _, _]) (.cons Has.n1 (.cons Has.n1 (.cons Has.n1 (.cons Has.n0 .nil)))))

theorem Store_sp (at' v : Int) (hat : i64 at') (hfew : ∀ y ∈ M.L, y.p.length ≤ 1000000) (hE : M.ev.length ≤ 1000000) (hT : TabC c) (H : Sat c (MemH m M :: Γ) w) :
    Calls Tryd.prog 36 #[.pointer (some ⟨m, 0, none⟩), .int .i64 at', .int .i64 v] w
      (Rt fun u w' => u = .int .i64 (putM M 1 at' v).1 ∧ Sat c (MemH m (putM M 1 at' v).2 :: Γ) w') := by
  refine memory_Memory_Store_ok ?_
  unfold memory_Memory_Store_w
  (with_reducible (repeat (first | refine pu_st ?_ | refine bn_st ?_)))
  exact Cl.of memory_Memory_put_en (put_sp 1 at' v hat hfew hE hT H) fun _ _ h => h

theorem Flush_sp (k : Int) (hE : M.ev.length ≤ 1000000) (hT : TabC c) (H : Sat c (MemE m M mb es ck :: Γ) w) :
    Calls Tryd.prog 37 #[.pointer (some ⟨m, 0, none⟩), .int .i64 k] w (Rt fun u w' => u = .int .i64 (flushM M k).1 ∧ Sat c (MemE m (flushM M k).2 mb es ck :: Γ) w') := by
  refine memory_Memory_Flush_ok ?_
  unfold memory_Memory_Flush_w
  obtain ⟨c1, lv, ps, ev, R, hT1, m1, H1, back⟩ := H.lentM hT
  refine Cl.of memory_Memory_has_en (has_sp _ R H1) ?_
  rintro _ w ⟨rfl, H1⟩
  have H := back H1
  (with_reducible (repeat (first | refine pu_st ?_ | refine bn_st ?_)))
  refine condND (fun hk => ?_) (fun hk => ?_)
  · have : flushM M k = (40, M) := by
      unfold flushM
      split
      · rfl
      · rw [List.getElem?_eq_none (by omega)]
    rw [this]
    exact ⟨rfl, H⟩
  obtain ⟨n, rfl⟩ : ∃ n : Nat, k = n := ⟨k.toNat, by omega⟩
  obtain ⟨y, hy⟩ : ∃ y, M.L[n]? = some y := ⟨M.L[n]'(by omega), List.getElem?_eq_getElem _⟩
  have hlt : n < M.L.length := (List.getElem?_eq_some_iff.1 hy).1
  have hfl : flushM M n = (0, ⟨M.L.set n { y with mark := y.p.length }, M.span, M.ev ++ [⟨3, n, 0, 0, zer⟩]⟩) := by
    unfold flushM; rw [if_neg (by omega)]; simp only [Int.toNat_natCast, hy]
  rw [hfl]
  obtain ⟨bl, cap, sp, ps, p, ev, hps, hb, hp, hcap, hsp, hpo, H⟩ := H.openLine hy
  have hz : (M.L.zip ps)[n]? = some (y, p) := by rw [List.getElem?_zip_eq_some]; exact ⟨hy, hp⟩
  have hlen : ∀ z' : LineS × Value, n * 11 + 11 ≤ (((((M.L.zip ps).set n z').map lnC).flatten) ++ sp).length := fun z' => by
    rw [List.length_append, rows_length lnC 11 lnC_len, List.length_set]
    have : (n + 1) * 11 ≤ (M.L.zip ps).length * 11 := Nat.mul_le_mul_right _ (List.getElem?_eq_some_iff.1 hz).1
    omega
  obtain ⟨a1, cap1, rfl, -⟩ := (show Sat c (_ :: _ :: ownS 80 2 p y.p.length ((y.p.map stC).flatten) :: _) w from H).slAt Has.n2
  replace H : Sat c (opM m bl M.L.length cap sp (M.L.zip ps) n (y, .slice a1 y.p.length cap1) mb es ck M.span ev M.ev Γ) w := by
    unfold opM; rw [set_same hz]; exact H
  (refine ⟨Sat _ _, Sat _ _, Sat.drew H, fun _ h => h, ?_⟩; (with_reducible (repeat (first | refine pu_st ?_ | refine bn_st ?_))))
  (refine ⟨_, fun w H => run_load1 (H.cell Has.n0 rfl), ?_⟩; (with_reducible (repeat (first | refine pu_st ?_ | refine bn_st ?_))))
  (refine ⟨_, fun w H => run_load1 (H.cell Has.n0 rfl), ?_⟩; (with_reducible (repeat (first | refine pu_st ?_ | refine bn_st ?_))))
  refine pu_indexN hlt ?_
  rw [Nat.zero_add]
  (with_reducible (repeat (first | refine pu_st ?_ | refine bn_st ?_)))
  refine ⟨.slice a1 y.p.length cap1, fun w H => run_load1 (H.cell Has.n1 (by rw [lineCell hz sp 9 (by omega)]; rfl)), ?_⟩
  (refine ⟨_, fun w H => run_len _, ?_⟩; (with_reducible (repeat (first | refine pu_st ?_ | refine bn_st ?_))))
  refine pu_indexN hlt ?_
  rw [Nat.zero_add]
  (with_reducible (repeat (first | refine pu_st ?_ | refine bn_st ?_)))
  (refine ⟨fun w H => ?_, trivial⟩; (with_reducible (repeat (first | refine pu_st ?_ | refine bn_st ?_))))
  refine bn_store1 H Has.n1 (by have := hlen (y, .slice a1 y.p.length cap1); omega) rfl fun w H => ?_
  (refine ⟨Sat _ _, Sat _ _, H, fun _ h => h, (by first | trivial | exact fun _ h => h | exact fun _ h => h.tail | exact fun _ h => h.tail.tail), ?_⟩; (with_reducible (repeat (first | refine pu_st ?_ | refine bn_st ?_))))
  (intro w H; (with_reducible (repeat (first | refine pu_st ?_ | refine bn_st ?_))))
  rw [lineSet (z' := (y, .slice a1 y.p.length cap1)) (z'' := ({ y with mark := y.p.length }, .slice a1 y.p.length cap1)) hz sp 10 (.int .i64 y.p.length) (by omega) rfl] at H
  refine pu_build (cs := evC ⟨3, n, 0, 0, zer⟩) (by kernel_rfl) ?_
  have hb' : BusyOk es ck (M.L.set n { y with mark := y.p.length }) := by
    refine ⟨fun e he => ?_, fun j l hl hlp => ?_, hb.one, hb.born, hb.old⟩
    · obtain ⟨j, h1, h2, l, h3, h4⟩ := hb.keys e he
      by_cases hj : j = n
      · subst hj; rw [hy] at h3; cases h3; exact ⟨j, h1, h2, _, set_at hy, h4⟩
      · exact ⟨j, h1, h2, l, by rw [List.getElem?_set_ne (fun e => hj e.symm)]; exact h3, h4⟩
    · rcases set_get hl with ⟨rfl, rfl⟩ | ⟨hj, hl⟩
      · exact hb.all j y hy hlp
      · exact hb.all j l hl hlp
  have H2 := Sat.shutLine (y' := { y with mark := y.p.length }) (p' := .slice a1 y.p.length cap1) (span := M.span) (E := M.ev) hy hps (hps.nil n y _ hy hp) hp hcap hsp hb' (H.get Has.n1)
  refine Cl.of memory_Memory_note_en (note_sp (M := ⟨M.L.set n { y with mark := y.p.length }, M.span, M.ev⟩) ⟨3, n, 0, 0, zer⟩ hE H2) ?_
  rintro _ w H
  exact ⟨rfl, H⟩

end

end Go.Proofs.YtlolaieolgmdnaaDoor
