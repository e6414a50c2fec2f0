/-
  The memory under test, changed: rest, settle, note, put, Store, Flush.
-/
import Derived.Test.YtlolaieolgmdnaaDoorME

namespace Go.Proofs.YtlolaieolgmdnaaDoor

open Go.RowKit
set_option linter.unusedVariables false
set_option linter.unusedSimpArgs false
set_option maxRecDepth 10000

theorem lineCell {Z : List (LineS × Value)} {n : Nat} {z z' : LineS × Value} (h : Z[n]? = some z) (sp : List Value) (j : Nat) (hj : j < 11) : (((Z.set n z').map lnC).flatten ++ sp)[n * 11 + j]? = (lnC z')[j]? := by
  have h' : (Z.set n z')[n]? = some z' := by rw [List.getElem?_set_self']; rw [h]; rfl
  have hn : n < (Z.set n z').length := (List.getElem?_eq_some_iff.1 h').1
  have hle : (n + 1) * 11 ≤ (Z.set n z').length * 11 := Nat.mul_le_mul_right _ hn
  rw [List.getElem?_append_left (by rw [rows_length lnC 11 lnC_len]; omega)]
  exact rows_cell lnC 11 lnC_len _ n z' h' j hj

theorem set_set_line (Z : List (LineS × Value)) (n : Nat) (z z' : LineS × Value) : (Z.set n z).set n z' = Z.set n z' := List.set_set ..

theorem lineSet {Z : List (LineS × Value)} {n : Nat} {z z' z'' : LineS × Value} (h : Z[n]? = some z) (sp : List Value) (j : Nat) (v : Value) (hj : j < 11) (hz : lnC z'' = (lnC z').set j v) :
    (((Z.set n z').map lnC).flatten ++ sp).set (n * 11 + j) v = ((Z.set n z'').map lnC).flatten ++ sp := by
  have h' : (Z.set n z')[n]? = some z' := by rw [List.getElem?_set_self']; rw [h]; rfl
  have hn : n < (Z.set n z').length := (List.getElem?_eq_some_iff.1 h').1
  have hle : (n + 1) * 11 ≤ (Z.set n z').length * 11 := Nat.mul_le_mul_right _ hn
  rw [List.set_append_left _ _ (by rw [rows_length lnC 11 lnC_len]; omega), rows_set lnC 11 lnC_len _ n z' z'' j v h' hj hz, set_set_line]

theorem lineWr {Z : List (LineS × Value)} {n : Nat} {z z' z'' : LineS × Value} (h : Z[n]? = some z) (sp : List Value) (o : Nat) (vs : List Value) (ho : o + vs.length ≤ 11) (hz : lnC z'' = wrL (lnC z') o vs) :
    wrL (((Z.set n z').map lnC).flatten ++ sp) (n * 11 + o) vs = ((Z.set n z'').map lnC).flatten ++ sp := by
  have h' : (Z.set n z')[n]? = some z' := by rw [List.getElem?_set_self']; rw [h]; rfl
  have hn : n < (Z.set n z').length := (List.getElem?_eq_some_iff.1 h').1
  have hle : (n + 1) * 11 ≤ (Z.set n z').length * 11 := Nat.mul_le_mul_right _ hn
  rw [wrL_left _ _ _ _ (by rw [rows_length lnC 11 lnC_len]; omega),
    wrL_rowsO ((Z.set n z').map lnC) n o (lnC z') vs (fun r hr => by obtain ⟨x, _, rfl⟩ := List.mem_map.1 hr; exact lnC_len x) (by rw [List.getElem?_map, h']; rfl) ho, ← hz, List.map_set, List.map_set, List.set_set]

theorem set_same {Z : List (LineS × Value)} {n : Nat} {z : LineS × Value} (h : Z[n]? = some z) : Z.set n z = Z := by
  apply List.ext_getElem?
  intro i
  by_cases hi : i = n
  · subst hi; rw [List.getElem?_set_self']; rw [h]; rfl
  · rw [List.getElem?_set_ne (fun e => hi e.symm)]

theorem slAt.drop {w : World} {a : Option Addr} {n cap k s : Nat} {xs : List Value} (hs : slAt w (.slice a n cap) n xs) (hk : k ≤ n) : slAt w (.slice (if cap = k then a else a.map (·.add (k * s))) (n - k) (cap - k)) (n - k) (xs.drop (k * s)) := by
  obtain ⟨a', cap', e, hle, hn, hc⟩ := hs
  cases e
  refine ⟨_, _, rfl, by omega, fun e => ?_, fun b o sp e => ?_⟩
  · split at e
    · have := hn e; omega
    · cases a with
      | none => have := hn rfl; omega
      | some x => cases e
  · split at e
    · left; omega
    · cases a with
      | none => cases e
      | some x =>
        obtain ⟨xb, xo, xs'⟩ := x
        rcases hc xb xo xs' rfl with h0 | ⟨rfl, h1⟩
        · left; omega
        · right
          rw [Option.map_some, add_none] at e
          cases e
          refine ⟨rfl, fun j v hj => ?_⟩
          rw [List.getElem?_drop] at hj
          rw [Nat.add_assoc]
          exact h1 _ v hj

theorem lnC_words {z : LineS × Value} {j : Nat} {v : Value} (h : (w8C z.1.x)[j]? = some v) : j < 11 ∧ (lnC z)[j]? = some v := by
  rcases j with _ | _ | _ | _ | _ | _ | _ | _ | j <;> first | exact ⟨by omega, h⟩ | (simp [w8C] at h)

theorem drop_rows {α : Type} {enc : α → List Value} {k : Nat} (hk : ∀ x, (enc x).length = k) : ∀ (l : List α) (h : Nat), ((l.map enc).flatten).drop (h * k) = ((l.drop h).map enc).flatten
  | l, 0 => by simp
  | [], h + 1 => by simp
  | x :: l, h + 1 => by
    rw [List.map_cons, List.flatten_cons, List.drop_succ_cons, ← drop_rows hk l h, Nat.succ_mul, Nat.add_comm, List.drop_append, hk]
    rw [List.drop_of_length_le (by rw [hk]; omega), Nat.add_sub_cancel_left, List.nil_append]

/-- A line with its first k pending stores settled. -/
def settleL (y : LineS) (k : Nat) : LineS := if k = 0 then y else ⟨(showL y.x y.c (y.p.take k)).1, enc (showL y.x y.c (y.p.take k)).1, y.p.drop k, max 0 (y.mark - k)⟩

/-- The opened memory. -/
abbrev opM (m bl len cap : Nat) (sp : List Value) (Z : List (LineS × Value)) (n : Nat) (z : LineS × Value) (mb : Nat) (es : Array MapEntry) (ck : Nat) (span : Int) (ev : Value) (E : List Ev) (Γ : List HProp) : List HProp :=
  blk m [.slice (some ⟨bl, 0, none⟩) len cap, .map (some mb), .int .i64 span, ev] 61 :: blk bl (((Z.set n z).map lnC).flatten ++ sp) 57 :: pendH z :: obj mb (.map es ck) ::
      ownS 77 12 ev E.length ((E.map evC).flatten) :: big ((Z.eraseIdx n).map pendH) :: Γ

section

variable {c : Cx} {Γ Δ : List HProp} {w : World} {m : Nat} {M : MemS} {bl cap mb ck : Nat} {sp : List Value} {Z : List (LineS × Value)} {n : Nat} {es : Array MapEntry} {span : Int} {ev : Value} {E : List Ev} {L : List LineS}

theorem rest_sp {y : LineS} {z z' : LineS × Value} (hz : Z[n]? = some z) (hn : n < L.length) (hy : L[n]? = some y) (hb : BusyOk es ck L) (H : Sat c (opM m bl L.length cap sp Z n z' mb es ck span ev E Γ) w) :
    Calls Tryd.prog 66 #[.pointer (some ⟨m, 0, none⟩), .int .i64 (n : Int)] w (Rt fun _ w' => ∃ es' ck', BusyOk es' ck' (L.set n z'.1) ∧ Only n es es' ck ck' ∧ Sat c (opM m bl L.length cap sp Z n z' mb es' ck' span ev E Γ) w') := by
  refine memory_Memory_rest_ok ?_
  unfold memory_Memory_rest_w
  obtain ⟨y', p'⟩ := z'
  obtain ⟨a1, cap1, rfl, -⟩ := (show Sat c (blk m _ _ :: blk bl _ _ :: ownS 80 2 p' y'.p.length ((y'.p.map stC).flatten) :: _) w from H).slAt Has.n2
  (with_reducible (repeat (first | refine pu_st ?_ | refine bn_st ?_)))
  (refine bn_load1 (Sat.cell H Has.n0 rfl) ?_; (with_reducible (repeat (first | refine pu_st ?_ | refine bn_st ?_))))
  refine pu_indexN hn ?_
  (with_reducible (repeat (first | refine pu_st ?_ | refine bn_st ?_)))
  refine bn_load1 (H.cell Has.n1 (by rw [Nat.zero_add, lineCell hz sp 9 (by omega)]; rfl)) ?_
  (with_reducible (repeat (first | refine pu_st ?_ | refine bn_st ?_)))
  refine condD (fun h0 => ?_) (fun h0 => ?_)
  · have hp0 : y'.p = [] := List.eq_nil_of_length_eq_zero (by omega)
    (with_reducible (repeat (first | refine pu_st ?_ | refine bn_st ?_)))
    (refine bn_load1 (Sat.cell H Has.n0 rfl) ?_; (with_reducible (repeat (first | refine pu_st ?_ | refine bn_st ?_))))
    refine bn_mapDel H Has.n3 hb.ints (fun hno w H => ?_) (fun j x hj hk w H => ?_)
    · exact ⟨es, ck, hb.idle hy hp0 hno, Only.same _ _ _, H.pull (ps := [_, _, _, _]) (.cons Has.n1 (.cons Has.n1 (.cons Has.n1 (.cons Has.n0 .nil))))⟩
    · exact ⟨_, ck, hb.drop hy hp0 hj hk, fun _ => ⟨fun e he => ((erase_mem hj hb.one).1 he).1, fun e he hne => (erase_mem hj hb.one).2 ⟨he, by rw [hk]; exact hne⟩, rfl⟩, H.pull (ps := [_, _, _, _]) (.cons Has.n1 (.cons Has.n1 (.cons Has.n1 (.cons Has.n0 .nil))))⟩
  · have hp0 : y'.p ≠ [] := fun e => h0 (by rw [e]; rfl)
    (with_reducible (repeat (first | refine pu_st ?_ | refine bn_st ?_)))
    (refine bn_load1 (Sat.cell H Has.n0 rfl) ?_; (with_reducible (repeat (first | refine pu_st ?_ | refine bn_st ?_))))
    refine bn_mapPut H Has.n3 hb.ints (fun hno w H => ?_) (fun j x hj hk w H => ?_)
    · exact ⟨_, _, hb.push hy hp0 hno, fun ⟨e, he, hk⟩ => absurd hk (hno e he), H.pull (ps := [_, _, _, _]) (.cons Has.n1 (.cons Has.n1 (.cons Has.n1 (.cons Has.n0 .nil))))⟩
    · exact ⟨_, _, hb.turn hy hp0 hj hk, by rw [hb.turnEq hj hk]; exact Only.same _ _ _, H.pull (ps := [_, _, _, _]) (.cons Has.n1 (.cons Has.n1 (.cons Has.n1 (.cons Has.n0 .nil))))⟩

theorem settle_sp {y : LineS} (k : Nat) (hy : M.L[n]? = some y) (hyok : y.ok) (hk : k ≤ y.p.length) (hT : TabC c) (H : Sat c (MemE m M mb es ck :: Γ) w) :
    Calls Tryd.prog 53 #[.pointer (some ⟨m, 0, none⟩), .int .i64 (n : Int), .int .i64 (k : Int)] w (Rt fun _ w' => ∃ es' ck', Only n es es' ck ck' ∧ Sat c (MemE m ⟨M.L.set n (settleL y k), M.span, M.ev⟩ mb es' ck' :: Γ) w') := by
  refine memory_Memory_settle_ok ?_
  unfold memory_Memory_settle_w
  have hlt : n < M.L.length := (List.getElem?_eq_some_iff.1 hy).1
  obtain ⟨bl, cap, sp, ps, p, ev, hps, hb, hp, hcap, hsp, hpo, H⟩ := H.openLine hy
  have hz : (M.L.zip ps)[n]? = some (y, p) := by rw [List.getElem?_zip_eq_some]; exact ⟨hy, hp⟩
  obtain ⟨a1, cap1, rfl, -⟩ := (show Sat c (_ :: _ :: ownS 80 2 p y.p.length ((y.p.map stC).flatten) :: _) w from H).slAt Has.n2
  have hlen : ∀ z' : LineS × Value, n * 11 + 11 ≤ (((((M.L.zip ps).set n z').map lnC).flatten) ++ sp).length := fun z' => by
    rw [List.length_append, rows_length lnC 11 lnC_len, List.length_set]
    have : (n + 1) * 11 ≤ (M.L.zip ps).length * 11 := Nat.mul_le_mul_right _ (List.getElem?_eq_some_iff.1 hz).1
    omega
  have hshut := fun {y' : LineS} {p' : Value} {es : Array MapEntry} {ck : Nat} {w : World} (hb : BusyOk es ck (M.L.set n y')) (hnl : y'.p = [] → ∃ a, p' = .slice a 0 0) (H : Sat c (opM m bl M.L.length cap sp (M.L.zip ps) n (y', p') mb es ck M.span ev M.ev Γ) w) =>
    Sat.shutLine (span := M.span) (E := M.ev) hy hps hnl hp hcap hsp hb H
  replace H : Sat c (opM m bl M.L.length cap sp (M.L.zip ps) n (y, .slice a1 y.p.length cap1) mb es ck M.span ev M.ev Γ) w := by
    unfold opM; rw [set_same hz]; exact H
  have hset : M.L.set n y = M.L := by
    apply List.ext_getElem?
    intro i
    by_cases hi : i = n
    · subst hi; rw [set_at hy, hy]
    · rw [List.getElem?_set_ne (fun e => hi e.symm)]
  (with_reducible (repeat (first | refine pu_st ?_ | refine bn_st ?_)))
  (refine bn_load1 (Sat.cell H Has.n0 rfl) ?_; (with_reducible (repeat (first | refine pu_st ?_ | refine bn_st ?_))))
  refine pu_indexN hlt ?_
  rw [Nat.zero_add]
  (with_reducible (repeat (first | refine pu_st ?_ | refine bn_st ?_)))
  refine condD (fun h0 => ?_) (fun h0 => ?_)
  · have : k = 0 := by omega
    subst this
    have h1 := hshut (y' := y) (by rw [hset]; exact hb) (hps.nil n y _ hy hp) H
    unfold settleL
    rw [if_pos rfl]
    exact ⟨es, ck, Only.same _ _ _, h1⟩
  · have hk0 : k ≠ 0 := by omega
    have hsl : settleL y k = ⟨(showL y.x y.c (y.p.take k)).1, enc (showL y.x y.c (y.p.take k)).1, y.p.drop k, max 0 (y.mark - k)⟩ := by unfold settleL; rw [if_neg hk0]
    rw [hsl]
    obtain ⟨c1, A1, m1, H1, b1⟩ := (H.get Has.n1).lent
    obtain ⟨c2, A2, m2, H2, b2⟩ := (H1.get Has.n1).lent
    have hT2 : TabC c2 := fun H => hT (b1 (b2 H))
    have hl : LineR c2 bl (n * 11) y (.slice a1 y.p.length cap1) := fun H j v hj => by
      have hj11 : j < 11 := by
        have := (List.getElem?_eq_some_iff.1 hj).1
        rwa [lnC_len] at this
      exact (m2 _ A1).cell H (by rw [lineCell hz sp j hj11]; exact hj)
    refine Cl.of memory_line_shows_en (shows_sp k hk hyok.few hyok.word hl A2 hT2 H2) ?_
    rintro _ w ⟨rfl, H2⟩
    have H := b1 (b2 H2)
    generalize hw : (showL y.x y.c (y.p.take k)).1 = x
    -- blk bl, pendH, blk m, obj, ownS, big
    (with_reducible (repeat (first | refine pu_st ?_ | refine bn_st ?_)))
    refine bn_storeN (vs := w8C x) H Has.n0 rfl ?_ (w8C_one x) fun w H => ?_
    · have := hlen (y, .slice a1 y.p.length cap1)
      simp only [w8C, List.length_cons, List.length_nil] at this ⊢
      omega
    have e1 := lineWr (z' := (y, .slice a1 y.p.length cap1)) (z'' := (⟨x, y.c, y.p, y.mark⟩, .slice a1 y.p.length cap1)) hz sp 0 (w8C x) (by simp [w8C]) rfl
    rw [Nat.add_zero] at e1
    rw [e1] at H
    (with_reducible (repeat (first | refine pu_st ?_ | refine bn_st ?_)))
    refine bn_loadN (vs := w8C x) (H.cells Has.n0 fun j v hj => ?_) rfl ?_
    · obtain ⟨h1, h2⟩ := lnC_words (z := (⟨x, y.c, y.p, y.mark⟩, .slice a1 y.p.length cap1)) hj
      rw [lineCell hz sp j h1]; exact h2
    refine Cl.of (by kernel_rfl) (of_RetB H (encode_any x.a0 x.a1 x.a2 x.a3 x.a4 x.a5 x.a6 x.a7 w (hT H))) ?_
    rintro _ w ⟨rfl, H⟩
    rw [show (⟨x.a0, x.a1, x.a2, x.a3, x.a4, x.a5, x.a6, x.a7⟩ : W8) = x from rfl]
    (with_reducible (repeat (first | refine pu_st ?_ | refine bn_st ?_)))
    refine bn_store1 H Has.n0 (by have := hlen (⟨x, y.c, y.p, y.mark⟩, .slice a1 y.p.length cap1); omega) rfl fun w H => ?_
    rw [lineSet (z' := (⟨x, y.c, y.p, y.mark⟩, .slice a1 y.p.length cap1)) (z'' := (⟨x, enc x, y.p, y.mark⟩, .slice a1 y.p.length cap1)) hz sp 8 (.int .i64 (enc x)) (by omega) rfl] at H
    (with_reducible (repeat (first | refine pu_st ?_ | refine bn_st ?_)))
    refine bn_load1 (v := .slice a1 y.p.length cap1) (H.cell Has.n0 (by rw [lineCell hz sp 9 (by omega)]; rfl)) ?_
    refine pu_sliceL (by omega) (by omega) ?_
    simp only [Int.toNat_natCast]
    obtain ⟨c3, A3, m3, H3, b3⟩ := (H.get Has.n1).lent
    refine Cl.of (by kernel_rfl) (cloneSt_sp (xs := ((y.p.drop k).map stC).flatten) (fun H => ?_) (by rw [rows_length stC 2 stC_len, List.length_drop]) (all_one_rows stC _ stC_one) (by have := hyok.few; omega) H3) ?_
    · have := slAt.drop (s := 2) ((show At c3 (ownS 80 2 (.slice a1 y.p.length cap1) y.p.length ((y.p.map stC).flatten)) from A3).slR H) hk
      rwa [drop_rows stC_len] at this
    rintro u w ⟨hu0, H⟩
    replace H := (b3 H).tail
    obtain ⟨a2, cap2, hu, -⟩ := H.slAt Has.n0
    have hu1 : u.oneCell' = true := by rw [hu]; rfl
    rw [show y.p.length - k = (y.p.drop k).length by rw [List.length_drop]] at H
    (with_reducible (repeat (first | refine pu_st ?_ | refine bn_st ?_)))
    refine bn_store1 H Has.n1 (by have := hlen (⟨x, enc x, y.p, y.mark⟩, .slice a1 y.p.length cap1); omega) hu1 fun w H => ?_
    rw [lineSet (z' := (⟨x, enc x, y.p, y.mark⟩, .slice a1 y.p.length cap1)) (z'' := (⟨x, enc x, y.p.drop k, y.mark⟩, u)) hz sp 9 u (by omega) rfl] at H
    (with_reducible (repeat (first | refine pu_st ?_ | refine bn_st ?_)))
    refine bn_load1 (v := .int .i64 y.mark) (H.cell Has.n0 (by rw [lineCell hz sp 10 (by omega)]; rfl)) ?_
    have hm0 := hyok.m0
    have hm1 := hyok.m1
    have hfw := hyok.few
    refine pu_sub (by unfold i64; omega) ?_
    (with_reducible (repeat (first | refine pu_st ?_ | refine bn_st ?_)))
    refine bn_store1 H Has.n0 (by have := hlen (⟨x, enc x, y.p.drop k, y.mark⟩, u); omega) rfl fun w H => ?_
    rw [lineSet (z' := (⟨x, enc x, y.p.drop k, y.mark⟩, u)) (z'' := (⟨x, enc x, y.p.drop k, max 0 (y.mark - k)⟩, u)) hz sp 10 (.int .i64 (max 0 (y.mark - k))) (by omega) rfl] at H
    have H9 : Sat c (opM m bl M.L.length cap sp (M.L.zip ps) n (⟨x, enc x, y.p.drop k, max 0 (y.mark - k)⟩, u) mb es ck M.span ev M.ev Γ) w :=
      H.pull (ps := [_, _, _]) (.cons Has.n2 (.cons Has.n0 (.cons Has.n0 .nil)))
    refine Cl.of memory_Memory_rest_en (rest_sp hz hlt hy hb H9) ?_
    rintro _ w ⟨es', ck', hb', ho, H⟩
    exact ⟨es', ck', ho, hshut hb' (fun h => hu0 (by rw [← List.length_drop]; exact congrArg List.length h)) H⟩

end

end Go.Proofs.YtlolaieolgmdnaaDoor
