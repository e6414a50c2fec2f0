/-
  A shallow reading of the program's code: 'wpC', by recursion over the code, over a list of temporaries; that it is a weakest precondition of the machine's.
-/
import Derived.WalkKit
import Derived.OrdersHeld
namespace Go.Proofs.YtlolaieolgmdnaaDoor
open Go.RowKit
set_option linter.unusedVariables false

/-! ### Temporaries as a list -/

def nth : List Value → Nat → Value
  | [], _ => undef
  | x :: _, 0 => x
  | _ :: l, n + 1 => nth l n

def setL : List Value → Nat → Value → List Value
  | [], _, _ => []
  | _ :: l, 0, v => v :: l
  | x :: l, n + 1, v => x :: setL l n v

def putE (env : List Value) : Option Tmp → Value → List Value
  | some d, v => setL env d v
  | none, _ => env

def ev (env : List Value) : Operand → Value
  | .tmp t => nth env t
  | .const v => v
  | .global g => .pointer (some ⟨g, 0, none⟩)
  | .func f => .func (.func f) #[] #[]

def mkA (ds : List Deferred) (env : List Value) : Act := ⟨env.toArray, ds⟩

variable {ds : List Deferred}

theorem nth_eq : ∀ (l : List Value) (n : Nat), nth l n = (l[n]?).getD undef
  | [], _ => by simp [nth]
  | _ :: _, 0 => rfl
  | _ :: l, n + 1 => by simp [nth, nth_eq l n]

theorem setL_eq : ∀ (l : List Value) (n : Nat) (v : Value), setL l n v = l.set n v
  | [], _, _ => rfl
  | _ :: _, 0, _ => rfl
  | _ :: l, n + 1, v => by simp [setL, setL_eq l n v]

theorem mkA_eval (env : List Value) : (mkA ds env).eval = ev env := by
  funext x
  cases x with
  | tmp t => simp [Act.eval, ev, mkA, nth_eq, Array.getD_eq_getD_getElem?]
  | _ => rfl

theorem mkA_put (env : List Value) (d : Option Tmp) (v : Value) : (mkA ds env).put d v = mkA ds (putE env d v) := by
  cases d with
  | none => rfl
  | some d => simp [Act.put, mkA, putE, setL_eq]

def mapA {α β : Type} (a : Array α) (f : α → β) : Array β := (a.toList.map f).toArray
theorem mapA_eq {α β : Type} (a : Array α) (f : α → β) : mapA a f = a.map f := by
  unfold mapA; apply Array.ext'; simp

/-! ### One operation -/

def nilC : Value → Sem Value
  | .pointer (some a) => pure (.pointer (some a))
  | .func (.func f) a b => pure (.func (.func f) a b)
  | _ => stuck ""

def pickS (c a b : Value) : Sem Value := do pure (if ← asBool c then a else b)
def bopS (op : BinOp) (xType : TypeId) (x y : Operand) (a b : Value) : Sem Value := do eqGuard op xType x y a b; binOp op xType a b

/-- The operations that only reckon: what they yield doesn't hang on the world, or is asked to be so. -/
def semP (ρ : Operand → Value) (o : Oper) : Option (Sem Value) :=
  match o.op with
  | .pick c a b => some (pickS (ρ c) (ρ a) (ρ b))
  | .build t parts => some (Instr.build t (mapA parts fun (i, x) => (i, ρ x)))
  | .nilCheck x => some (nilC (ρ x))
  | .binOp op xType x y _ => some (bopS op xType x y (ρ x) (ρ y))
  | .unOp op _ x => some (Op.unary op (ρ x))
  | .convert src dst x => some (convert src dst (ρ x))
  | .makeFunc fn first captured => some (Instr.makeFunc fn (mapA first ρ) (mapA captured ρ))
  | .makeInterface t x => some (Instr.makeInterface t (ρ x))
  | .slice t x lo hi mx => some (Instr.sliceAt t (ρ x) (lo.map ρ) (hi.map ρ) (mx.map ρ))
  | .fieldAddr s x f => some (Instr.fieldAt s (ρ x) f)
  | .field xType x f => some (Instr.field xType (ρ x) f)
  | .indexAddr t x ix => some (Instr.indexAt t (ρ x) (ρ ix))
  | .index xType x ix => some (Instr.index xType (ρ x) (ρ ix))
  | .extract t ix => some (Instr.extract (ρ t) ix)
  | .call { callee := .builtin .max, args, argTypes } => some (Builtin.max_ argTypes o.type (mapA args ρ))
  | .call { callee := .builtin .min, args, argTypes } => some (Builtin.min_ argTypes o.type (mapA args ρ))
  | _ => none

def unitV (s : Sem Unit) : Sem Value := do s; pure undef

/-- The operations that read or write memory, calls of Go functions apart. -/
def semM (ρ : Operand → Value) (o : Oper) : Option (Sem Value) :=
  match o.op with
  | .alloc elem => some (Instr.alloc elem true (.tuple #[]))
  | .box elem x => some (Instr.box elem (ρ x))
  | .buildSlice t len parts => some (Instr.buildSlice t len (mapA parts fun (i, x) => (i, ρ x)))
  | .load t a => some (Instr.loadAt t (ρ a))
  | .store t a x => some (unitV (Instr.storeAt t (ρ a) (ρ x)))
  | .makeMap t r => some (Instr.makeMap t (r.map ρ))
  | .makeSlice t l c => some (Instr.makeSlice t (ρ l) (ρ c))
  | .lookup xType x ix ok => some (Instr.lookup xType (ρ x) (ρ ix) ok)
  | .mapUpdate t m k x | .insert t m k x => some (unitV (Instr.mapUpdate t (ρ m) (ρ k) (ρ x)))
  | .mapEntry t m k => some (Instr.mapEntry t (ρ m) (ρ k))
  | .entryStore t m s x => some (unitV (Instr.entryStore t (ρ m) (ρ s) (ρ x)))
  | .range xType x => some (Instr.range xType (ρ x))
  | .next it isString => some (Instr.next (ρ it) isString o.type)
  | .entry it => some (Instr.entry (ρ it))
  | .call { callee := .builtin .append, args, argTypes } => some (Builtin.append_ argTypes o.type (mapA args ρ))
  | .call { callee := .builtin .copy, args, argTypes } => some (Builtin.copy_ argTypes o.type (mapA args ρ))
  | .call { callee := .builtin .len, args, argTypes } => some (Builtin.len_ argTypes o.type (mapA args ρ))
  | .call { callee := .builtin .cap, args, argTypes } => some (Builtin.cap_ argTypes o.type (mapA args ρ))
  | .call { callee := .builtin .delete, args, argTypes } => some (Builtin.delete_ argTypes o.type (mapA args ρ))
  | .call { callee := .builtin .clear, args, argTypes } => some (Builtin.clear_ argTypes o.type (mapA args ρ))
  | _ => none

/-- In whatever world: v. -/
def Pu (P : Program) (s : Sem Value) (K : Value → Prop) : Prop := ∃ v, (∀ w, s.run P w = .ok v w) ∧ K v
/-- In this world: a value, and a world. -/
def Bn (P : Program) (s : Sem Value) (w : World) (K : Value → World → Prop) : Prop := ∃ v w', s.run P w = .ok v w' ∧ K v w'

/-- A function that a call enters. -/
def enters (P : Program) (f : FuncId) : Bool :=
  match P.funcs[f]? with
  | some fn => fn.body.isSome && fn.name != "runtime.NumGoroutine"
  | none => false

def Rt (K : Value → World → Prop) (e : Ending) (w' : World) : Prop := ∃ v, e = .returned v ∧ K v w'

def Cl (P : Program) (f : FuncId) (args : Array Value) (w : World) (K : Value → World → Prop) : Prop := enters P f = true ∧ Calls P f args w (Rt K)

/-- A call of a function value. -/
def Clv (P : Program) (fv : Value) (args : Array Value) (w : World) (K : Value → World → Prop) : Prop :=
  ∃ f first captured, fv = .func (.func f) first captured ∧ Cl P f (first ++ args ++ captured) w K

def condV (v : Value) (A B : Prop) : Prop :=
  match v with
  | .bool true => A
  | .bool false => B
  | _ => False

theorem condV_elim {v : Value} {A B : Prop} (h : condV v A B) : ∃ t, v = .bool t ∧ (t = true → A) ∧ (t = false → B) := by
  unfold condV at h
  split at h
  · exact ⟨true, rfl, fun _ => h, fun h => by cases h⟩
  · exact ⟨false, rfl, (fun h => by cases h), fun _ => h⟩
  · exact h.elim

theorem condV_intro {t : Bool} {A B : Prop} (h1 : t = true → A) (h2 : t = false → B) : condV (.bool t) A B := by
  cases t
  · exact h2 rfl
  · exact h1 rfl

def pickK (P : Program) (c a b : Value) (K : Value → Prop) : Prop :=
  match c with
  | .bool true => K a
  | .bool false => K b
  | c => Pu P (pickS c a b) K

theorem pickK_elim {P : Program} {c a b : Value} {K : Value → Prop} (h : pickK P c a b K) : Pu P (pickS c a b) K := by
  unfold pickK at h
  split at h
  · exact ⟨a, fun w => rfl, h⟩
  · exact ⟨b, fun w => rfl, h⟩
  · exact h

theorem pickK_mono {P : Program} {c a b : Value} {K K' : Value → Prop} (h : pickK P c a b K) (hK : ∀ v, K v → K' v) : pickK P c a b K' := by
  unfold pickK at h ⊢
  split at h
  · exact hK _ h
  · exact hK _ h
  · obtain ⟨v, hv, hk⟩ := h; exact ⟨v, hv, hK _ hk⟩

/-- One operation, its guard apart. -/
def opN (P : Program) (o : Oper) (env : List Value) (w : World) (K : Value → World → Prop) : Prop :=
  match o.op with
  | .move x | .assign x => K (ev env x) w
  | .pick c a b => pickK P (ev env c) (ev env a) (ev env b) fun v => K v w
  | .call { callee := .value (.func f), args, .. } => Cl P f (mapA args (ev env)) w K
  | .call { callee := .value (.tmp t), args, .. } => Clv P (nth env t) (mapA args (ev env)) w K
  | _ =>
    match semP (ev env) o with
    | some s => Pu P s fun v => K v w
    | none =>
      match semM (ev env) o with
      | some s => Bn P s w K
      | none => False

theorem wp_of_value {P : Program} {o : Oper} {a : Act} {w w' : World} {v : Value} {K : Act → World → Prop} {Q : Exit → Act → World → Prop}
    (h : (execOp a.eval o).run P w = .ok (.value v) w') (hK : K (a.put o.dst v) w') : o.wp P a w K Q := by
  unfold Oper.wp; rw [h]; exact hK
theorem wp_of_skip {P : Program} {o : Oper} {a : Act} {w w' : World} {K : Act → World → Prop} {Q : Exit → Act → World → Prop}
    (h : (execOp a.eval o).run P w = .ok .skip w') (hK : K (a.put o.dst undef) w') : o.wp P a w K Q := by
  unfold Oper.wp; rw [h]; exact hK

theorem run_toValue {P : Program} {s : Sem Value} {w w' : World} {v : Value} (h : s.run P w = .ok v w') : (do pure (Next.value (← s)) : Sem Next).run P w = .ok (.value v) w' := by
  rw [Sem.run_bind, h]; rfl

theorem run_unitV {P : Program} {t : Sem Unit} {w w' : World} {v : Value} (ht : (unitV t).run P w = .ok v w') : (do t; pure Next.skip : Sem Next).run P w = .ok .skip w' ∧ v = undef := by
  unfold unitV at ht
  rw [Sem.run_bind] at ht
  cases hr : t.run P w with
  | ok a w1 => rw [hr] at ht; rw [Sem.run_bind, hr]; cases ht; exact ⟨rfl, rfl⟩
  | halt x w1 => rw [hr] at ht; cases ht

theorem semP_run {P : Program} {ρ : Operand → Value} {o : Oper} {s : Sem Value} (hs : semP ρ o = some s) {w w' : World} {v : Value} (h : s.run P w = .ok v w') :
    (execOp ρ o).run P w = .ok (.value v) w' := by
  obtain ⟨dst, op, type, pos, after, guard⟩ := o
  cases op with
  | nilCheck x =>
    cases hs
    simp only [execOp]
    generalize ρ x = u at *
    unfold nilC at h
    split at h
    · cases h; rfl
    · cases h; rfl
    · cases h
  | pick c a b =>
    cases hs
    simp only [execOp]
    unfold pickS at h
    rw [Sem.run_bind] at h ⊢
    cases hr : (asBool (ρ c)).run P w with
    | ok a w1 => rw [hr] at h; cases h; rfl
    | halt x w1 => rw [hr] at h; cases h
  | call c =>
    obtain ⟨callee, args, argTypes⟩ := c
    cases callee with
    | builtin b => cases b <;> first | (cases hs; done) | (cases hs; rw [mapA_eq] at h; exact run_toValue h)
    | _ => cases hs
  | build t parts => cases hs; rw [mapA_eq] at h; exact run_toValue h
  | makeFunc fn first captured => cases hs; rw [mapA_eq, mapA_eq] at h; exact run_toValue h
  | _ => first | (cases hs; done) | (cases hs; exact run_toValue h)

theorem semM_run {P : Program} {ρ : Operand → Value} {o : Oper} {s : Sem Value} (hs : semM ρ o = some s) {w w' : World} {v : Value} (h : s.run P w = .ok v w') :
    (execOp ρ o).run P w = .ok (.value v) w' ∨ ((execOp ρ o).run P w = .ok .skip w' ∧ v = undef) := by
  obtain ⟨dst, op, type, pos, after, guard⟩ := o
  cases op with
  | call c =>
    obtain ⟨callee, args, argTypes⟩ := c
    cases callee with
    | builtin b => cases b <;> first | (cases hs; done) | (cases hs; rw [mapA_eq] at h; exact .inl (run_toValue h))
    | _ => cases hs
  | buildSlice t n parts => cases hs; rw [mapA_eq] at h; exact .inl (run_toValue h)
  | _ => first | (cases hs; done) | (cases hs; exact .inr (run_unitV h)) | (cases hs; exact .inl (run_toValue h))

theorem enters_run {P : Program} {f : FuncId} (h : enters P f = true) (args : Array Value) (w : World) : (callFunc f args).run P w = .ok (.enter f args) w := by
  unfold enters at h
  cases hf : P.funcs[f]? with
  | none => rw [hf] at h; cases h
  | some fn =>
    rw [hf] at h
    simp only [Bool.and_eq_true, bne_iff_ne, ne_eq] at h
    obtain ⟨hb, hn⟩ := h
    have hb' : fn.body.isNone = false := by cases hx : fn.body <;> simp_all
    have hn' : (fn.name == "runtime.NumGoroutine") = false := by simpa using hn
    unfold callFunc
    simp only [Sem.run_bind, run_program, Result.andThen_ok, hf, hn', hb', Bool.false_eq_true, if_false, Sem.run_pure]

theorem opN_sound {P : Program} {o : Oper} {env : List Value} {w : World} {K : Value → World → Prop} {K' : Act → World → Prop} {Q : Exit → Act → World → Prop}
    (h : opN P o env w K) (hK : ∀ v w', K v w' → K' (mkA ds (putE env o.dst v)) w') : o.wp P (mkA ds env) w K' Q := by
  obtain ⟨dst, op, type, pos, after, guard⟩ := o
  have cl : ∀ (f : FuncId) (args : Array Value), Cl P f args w K → (execOp (mkA ds env).eval ⟨dst, op, type, pos, after, guard⟩ = callFunc f args) →
      Oper.wp P ⟨dst, op, type, pos, after, guard⟩ (mkA ds env) w K' Q := by
    intro f args hc he
    unfold Oper.wp
    rw [he, enters_run hc.1]
    refine Calls.mono hc.2 ?_
    rintro e w' ⟨v, rfl, hv⟩
    show K' ((mkA ds env).put dst v) w'
    rw [mkA_put]
    exact hK v w' hv
  have gen : (match semP (ev env) ⟨dst, op, type, pos, after, guard⟩ with
    | some s => Pu P s fun v => K v w
    | none =>
      match semM (ev env) ⟨dst, op, type, pos, after, guard⟩ with
      | some s => Bn P s w K
      | none => False) → Oper.wp P ⟨dst, op, type, pos, after, guard⟩ (mkA ds env) w K' Q := by
    intro h
    split at h
    · rename_i s hs
      obtain ⟨v, hv, hk⟩ := h
      have hr := semP_run (P := P) hs (hv w)
      rw [← mkA_eval] at hr
      exact wp_of_value hr (by rw [mkA_put]; exact hK v w hk)
    · split at h
      · rename_i s hs
        obtain ⟨v, w', hv, hk⟩ := h
        have hr := semM_run (P := P) hs hv
        rw [← mkA_eval] at hr
        rcases hr with hr | ⟨hr, rfl⟩
        · exact wp_of_value hr (by rw [mkA_put]; exact hK v w' hk)
        · exact wp_of_skip hr (by rw [mkA_put]; exact hK _ w' hk)
      · exact h.elim
  unfold opN at h
  cases op with
  | pick c a b =>
    obtain ⟨v, hv, hk⟩ := pickK_elim h
    have hr := semP_run (P := P) (ρ := ev env) (o := ⟨dst, .pick c a b, type, pos, after, guard⟩) rfl (hv w)
    rw [← mkA_eval] at hr
    exact wp_of_value hr (by rw [mkA_put]; exact hK v w hk)
  | move x => exact wp_of_value (w' := w) (v := ev env x) (by simp only [execOp, mkA_eval]; rfl) (by rw [mkA_put]; exact hK _ _ h)
  | assign x => exact wp_of_value (w' := w) (v := ev env x) (by simp only [execOp, mkA_eval]; rfl) (by rw [mkA_put]; exact hK _ _ h)
  | call c =>
    obtain ⟨callee, args, argTypes⟩ := c
    cases callee with
    | value x =>
      cases x with
      | func f =>
        refine cl f _ h ?_
        simp [execOp, resolve, Act.eval, Deferred.ofValue, invoke, mkA_eval, mapA_eq]
      | tmp t =>
        obtain ⟨f, first, captured, hv, hc⟩ := h
        refine cl f _ hc ?_
        have : (mkA ds env).eval (.tmp t) = .func (.func f) first captured := by rw [mkA_eval]; exact hv
        simp [execOp, resolve, this, Deferred.ofValue, invoke, mkA_eval, mapA_eq]
      | const _ => exact gen h
      | global _ => exact gen h
    | invoke _ _ => exact gen h
    | builtin _ => exact gen h
  | _ => exact gen h

/-! ### A row of operations in the text's order -/

/-- What the guarding operation g has yielded. -/
def yl (ops : Array Oper) (env : List Value) (g : Nat) : Value :=
  match (ops[g]?).bind (·.dst) with
  | some d => nth env d
  | none => undef

theorem yielded_mkA {ops : Array Oper} {env : List Value} {g : Nat} {t : Bool} (h : yl ops env g = .bool t) : yielded ops (mkA ds env).tmps g = some t := by
  unfold yl at h
  unfold yielded
  cases hd : (ops[g]?).bind (·.dst) with
  | none => rw [hd] at h; cases h
  | some d =>
    rw [hd] at h
    simp only [Option.bind_some]
    have h : nth env d = .bool t := h
    rw [nth_eq] at h
    cases hx : env[d]? with
    | none => rw [hx] at h; cases h
    | some x =>
      rw [hx] at h
      simp only [Option.getD_some] at h
      subst h
      simp [mkA, hx]

/-- Of the operations that were passed over: those of which it is known still behind o. -/
def keepKn (ops : Array Oper) (o : Oper) : List Nat → List Nat
  | [] => []
  | p :: l =>
    match (match o.dst, (ops[p]?).bind (·.dst) with | some d, some e => Nat.beq d e | some _, none => false | none, _ => false) with
    | true => keepKn ops o l
    | false => p :: keepKn ops o l

def KnOk (ops : Array Oper) (kn : List Nat) (env : List Value) : Prop := ∀ p ∈ kn, yl ops env p = undef

theorem yielded_undef {ops : Array Oper} {env : List Value} {g : Nat} (h : yl ops env g = undef) : yielded ops (mkA ds env).tmps g = none := by
  unfold yl at h
  unfold yielded
  cases hd : (ops[g]?).bind (·.dst) with
  | none => rfl
  | some d =>
    rw [hd] at h
    simp only [Option.bind_some]
    have h : nth env d = undef := h
    rw [nth_eq] at h
    cases hx : env[d]? with
    | none => simp [mkA, hx]
    | some x =>
      rw [hx] at h
      simp only [Option.getD_some] at h
      subst h
      simp [mkA, hx, undef]

def hasKn (kn : List Nat) (g : Nat) : Bool := kn.any (Nat.beq g)

theorem hasKn_ok {ops : Array Oper} {kn : List Nat} {env : List Value} (h : KnOk ops kn env) {g : Nat} (hg : hasKn kn g = true) : yl ops env g = undef := by
  obtain ⟨p, hp, he⟩ := List.any_eq_true.1 hg
  have := Nat.eq_of_beq_eq_true he
  subst this
  exact h _ hp

theorem nth_setL_ne : ∀ {env : List Value} {d e : Nat} (v : Value), d ≠ e → nth (setL env d v) e = nth env e := by
  intro env d e v h
  rw [nth_eq, nth_eq, setL_eq, List.getElem?_set_ne h]

theorem keepKn_ok {ops : Array Oper} {o : Oper} {kn : List Nat} {env : List Value} (h : KnOk ops kn env) (v : Value) : KnOk ops (keepKn ops o kn) (putE env o.dst v) := by
  induction kn with
  | nil => intro p hp; cases hp
  | cons p l ih =>
    have ih' := ih (fun q hq => h q (by simp [hq]))
    simp only [keepKn]
    split
    · exact ih'
    · rename_i hb
      intro q hq
      rcases List.mem_cons.1 hq with rfl | hq
      · have h0 := h q (by simp)
        unfold yl at h0 ⊢
        cases ho : o.dst with
        | none => exact h0
        | some d =>
          cases he : (ops[q]?).bind (·.dst) with
          | none => rfl
          | some e =>
            rw [he] at h0
            simp only [ho, he] at hb
            have hne : d ≠ e := fun x => by subst x; rw [Nat.beq_refl] at hb; cases hb
            simp only [putE]
            rw [nth_setL_ne v hne]
            exact h0
      · exact ih' q hq

theorem skipKn_ok {ops : Array Oper} {o : Oper} {i : Nat} (hi : ops[i]? = some o) {kn : List Nat} {env : List Value} (h : KnOk ops kn env) : KnOk ops (i :: keepKn ops o kn) (putE env o.dst undef) := by
  intro p hp
  rcases List.mem_cons.1 hp with rfl | hp
  · unfold yl
    simp only [hi, Option.bind_some]
    cases ho : o.dst with
    | none => rfl
    | some d =>
      simp only [putE]
      rw [nth_eq, setL_eq]
      by_cases hd : d < env.length
      · simp [hd]
      · rw [List.getElem?_eq_none (by rw [List.length_set]; exact Nat.le_of_not_lt hd)]; rfl
  · exact keepKn_ok h undef p hp

/-- The temporary of operation g. -/
def slotOf (ops : Array Oper) (g : Nat) : Option Tmp := (ops[g]?).bind (·.dst)

theorem setL_same : ∀ (env : List Value) (d : Nat) (v : Value), nth env d = v → d < env.length → setL env d v = env
  | [], _, _, _, hd => by cases hd
  | x :: l, 0, v, h, _ => by simp only [nth] at h; rw [h]; rfl
  | x :: l, n + 1, v, h, hd => by
    simp only [nth] at h
    simp only [setL]
    rw [setL_same l n v h (by simpa using hd)]

theorem put_same {ops : Array Oper} {env : List Value} {g : Nat} {t : Bool} (h : yl ops env g = .bool t) : putE env (slotOf ops g) (.bool t) = env := by
  unfold yl at h
  unfold slotOf
  cases hd : (ops[g]?).bind (·.dst) with
  | none => rfl
  | some d =>
    rw [hd] at h
    have h : nth env d = .bool t := h
    refine setL_same env d _ h ?_
    rcases Nat.lt_or_ge d env.length with h' | h'
    · exact h'
    · rw [nth_eq, List.getElem?_eq_none h'] at h; cases h

/-- The guard's choice: one way or the other; in each the guard's temporary holds what it is known to. -/
def guardK (ops : Array Oper) (o : Oper) (kn : List Nat) (env : List Value) (run skip : List Value → Prop) : Prop :=
  match o.guard with
  | none => run env
  | some (g, b) =>
    match hasKn kn g with
    | true => skip env
    | false => condV (yl ops env g)
        (match b with
          | true => run (putE env (slotOf ops g) (.bool true))
          | false => skip (putE env (slotOf ops g) (.bool true)))
        (match b with
          | true => skip (putE env (slotOf ops g) (.bool false))
          | false => run (putE env (slotOf ops g) (.bool false)))

theorem wanted_bool {ops : Array Oper} {o : Oper} {env : List Value} {g : Nat} {b t : Bool} (hg : o.guard = some (g, b)) (ht : yl ops env g = .bool t) : Region.wanted o (yielded ops (mkA ds env).tmps) = (t == b) := by
  unfold Region.wanted
  rw [hg]
  simp only [yielded_mkA ht]
  cases t <;> cases b <;> rfl

theorem wanted_undef {ops : Array Oper} {o : Oper} {env : List Value} {g : Nat} {b : Bool} (hg : o.guard = some (g, b)) (ht : yl ops env g = undef) : Region.wanted o (yielded ops (mkA ds env).tmps) = false := by
  unfold Region.wanted
  rw [hg]
  simp only [yielded_undef ht]
  rfl

theorem guardK_sound {ops : Array Oper} {o : Oper} {kn : List Nat} {env : List Value} {run skip : List Value → Prop} (hk : KnOk ops kn env) (h : guardK ops o kn env run skip) :
    (Region.wanted o (yielded ops (mkA ds env).tmps) = true ∧ run env) ∨ (Region.wanted o (yielded ops (mkA ds env).tmps) = false ∧ skip env) := by
  unfold guardK at h
  split at h
  · rename_i hg
    exact .inl ⟨by simp [Region.wanted, hg], h⟩
  · rename_i g b hg
    split at h
    · rename_i hh
      exact .inr ⟨wanted_undef hg (hasKn_ok hk hh), h⟩
    · obtain ⟨t, ht, h1, h2⟩ := condV_elim h
      rw [wanted_bool hg ht]
      cases t
      · have h := h2 rfl
        rw [put_same ht] at h
        cases b
        · exact .inl ⟨rfl, h⟩
        · exact .inr ⟨rfl, h⟩
      · have h := h1 rfl
        rw [put_same ht] at h
        cases b
        · exact .inr ⟨rfl, h⟩
        · exact .inl ⟨rfl, h⟩

theorem condV_mono {v : Value} {A B A' B' : Prop} (h : condV v A B) (h1 : v = .bool true → A → A') (h2 : v = .bool false → B → B') : condV v A' B' := by
  obtain ⟨t, rfl, ha, hb⟩ := condV_elim h
  cases t
  · exact h2 rfl (hb rfl)
  · exact h1 rfl (ha rfl)

theorem guardK_mono {ops : Array Oper} {o : Oper} {kn : List Nat} {env : List Value} {run skip run' skip' : List Value → Prop} (h : guardK ops o kn env run skip)
    (hr : run env → run' env) (hs : skip env → skip' env) : guardK ops o kn env run' skip' := by
  unfold guardK at h ⊢
  split at h
  · exact hr h
  · rename_i g b hg
    split at h
    · exact hs h
    · refine condV_mono h (fun ht h => ?_) (fun ht h => ?_)
      · have e := put_same ht
        cases b
        · simp only at h ⊢; rw [e] at h ⊢; exact hs h
        · simp only at h ⊢; rw [e] at h ⊢; exact hr h
      · have e := put_same ht
        cases b
        · simp only at h ⊢; rw [e] at h ⊢; exact hr h
        · simp only at h ⊢; rw [e] at h ⊢; exact hs h

def stepO (P : Program) (ops : Array Oper) (i : Nat) (o : Oper) (kn : List Nat) (env : List Value) (w : World) (K : List Nat → List Value → World → Prop) : Prop :=
  guardK ops o kn env (fun env => opN P o env w fun v w' => K (keepKn ops o kn) (putE env o.dst v) w') (fun env => K (i :: keepKn ops o kn) (putE env o.dst undef) w)

theorem stepO_sound {P : Program} {ops : Array Oper} {i : Nat} {o : Oper} (hi : ops[i]? = some o) {kn : List Nat} {env : List Value} {w : World} {K : List Nat → List Value → World → Prop}
    {K' : Act → World → Prop} {Q : Exit → Act → World → Prop} (hk : KnOk ops kn env) (h : stepO P ops i o kn env w K)
    (hK : ∀ kn env w, KnOk ops kn env → K kn env w → K' (mkA ds env) w) :
    if Region.wanted o (yielded ops (mkA ds env).tmps) then o.wp P (mkA ds env) w K' Q else K' ((mkA ds env).put o.dst undef) w := by
  rcases guardK_sound hk h with ⟨hw, h⟩ | ⟨hw, h⟩
  · rw [hw]
    exact opN_sound h fun v w' hv => hK _ _ _ (keepKn_ok hk v) hv
  · rw [hw]
    show K' ((mkA ds env).put o.dst undef) w
    rw [mkA_put]; exact hK _ _ _ (skipKn_ok hi hk) h

def wpL (P : Program) (ops : Array Oper) (K : List Value → World → Prop) : List Oper → Nat → List Nat → List Value → World → Prop
  | [], _, _, env, w => K env w
  | o :: l, i, kn, env, w => stepO P ops i o kn env w fun kn env w => wpL P ops K l (i + 1) kn env w

theorem wpL_sound {P : Program} {ops : Array Oper} {K : List Value → World → Prop} {Q : Exit → Act → World → Prop} (hK : ∀ env w, K env w → Q .normal (mkA ds env) w) :
    ∀ (l : List Oper) (i : Nat) (kn : List Nat) (env : List Value) (w : World), (∀ j, l[j]? = ops[i + j]?) → KnOk ops kn env → wpL P ops K l i kn env w → wpList P ops Q l (mkA ds env) w
  | [], _, _, env, w, _, _, h => hK env w h
  | o :: l, i, kn, env, w, hl, hk, h => by
    refine wpList_step fun K' hK' => ?_
    exact stepO_sound (by simpa using (hl 0).symm) hk h fun kn env w hk h => hK' _ _ (wpL_sound hK l (i + 1) kn env w (fun j => by have := hl (j + 1); simpa [Nat.add_assoc, Nat.add_comm 1 j] using this) hk h)

/-! ### A region that draws its order -/

section
variable {P : Program} {ops : Array Oper} {Q : Exit → Act → World → Prop} {md : Region.Mode} {hold : Nat → Bool}

/-- Whatever order is picked: S is known of the world; behind an operation that 'holds' it is known still. -/
def G (P : Program) (md : Region.Mode) (ops : Array Oper) (Q : Exit → Act → World → Prop) (hold : Nat → Bool) : Nat → Array Bool → (World → Prop) → (World → Prop) → Act → Prop
  | 0, l, _, S, a => Region.ready md ops l = [] ∧ ∀ w, S w → Q .normal a w
  | n + 1, l, R, S, a => (Region.ready md ops l = [] → ∀ w, S w → Q .normal a w) ∧
    ∀ i ∈ Region.ready md ops l, ∀ w, S w → wpOp P ops Q i (fun a' w' => ∃ S' R' : World → Prop, S' w' ∧ (∀ w, S' w → R' w) ∧ (hold i = true → ∀ w, R' w → R w) ∧ G P md ops Q hold n (l.setIfInBounds i true) R' S' a') a w

theorem G_sound : ∀ (n : Nat) (l : Array Bool) (R S : World → Prop) (a : Act) (w : World), S w → G P md ops Q hold n l R S a → wpAny P md ops Q n l a w
  | 0, _, _, _, _, w, hS, h => ⟨h.1, h.2 w hS⟩
  | n + 1, _, _, _, _, w, hS, h => ⟨fun h0 => h.1 h0 w hS, fun i hi => wpOp_mono (fun a' w' ⟨S', R', hS', _, _, hg⟩ => G_sound n _ R' S' a' w' hS' hg) (h.2 i hi w hS)⟩

theorem G_done {l : Array Bool} {R S : World → Prop} {a : Act} (hr : Region.ready md ops l = []) (h : ∀ w, S w → Q .normal a w) : ∀ n, G P md ops Q hold n l R S a
  | 0 => ⟨hr, h⟩
  | _ + 1 => ⟨fun _ => h, by rw [hr]; simp⟩

theorem G_load {i : Nat} {oi : Oper} {v : Value} (hi : ops[i]? = some oi) (hsel : ∀ (j : Nat) (o : Oper) cs b, ops[j]? = some o → o.op ≠ .select cs b)
    (hQ : ∀ c a w, Q (.panic c) (a.put oi.dst v) w → Q (.panic c) a w) (D : List Nat)
    (hD : ∀ j ∈ D, j = i ∨ ∃ oj e, ops[j]? = some oj ∧ e ∈ oj.after ∧ Region.binds md e = true ∧ e.on ∈ D) :
    ∀ (n : Nat) (l : Array Bool) (R S : World → Prop) (a : Act), (∀ w, S w → R w) → (∀ j ∈ D, l.getD j true = false) → (∀ j, l.getD j true = false → j ∉ D → hold j = true) →
      (∀ j oj, ops[j]? = some oj → j ≠ i → l.getD j true = false → (∀ e ∈ oj.after, Region.binds md e = true → e.on ≠ i) → oi.apart ops oj = true) →
      i ∈ Region.ready md ops l → YieldsIf P ops R oi v a →
      G P md ops Q hold n (l.setIfInBounds i true) R S (a.put oi.dst v) → G P md ops Q hold (n + 1) l R S a := by
  intro n
  induction n with
  | zero =>
    intro l R S a hSR hDl hh hfree hr hy H
    refine ⟨fun h => (by rw [h] at hr; cases hr), fun j hj w hS => ?_⟩
    by_cases hji : j = i
    · subst hji; exact hy.wpOp hi (hSR w hS) ⟨S, R, hS, hSR, fun _ _ h => h, H⟩
    · have := ready_mono hj hji
      rw [H.1] at this
      cases this
  | succ n ih =>
    intro l R S a hSR hDl hh hfree hr hy H
    refine ⟨fun h => (by rw [h] at hr; cases hr), fun j hj w hS => ?_⟩
    by_cases hji : j = i
    · subst hji; exact hy.wpOp hi (hSR w hS) ⟨S, R, hS, hSR, fun _ _ h => h, H⟩
    · have h1 := H.2 j (ready_mono hj hji) w hS
      obtain ⟨hjun, oj, hoj, hall⟩ := mem_ready.1 hj
      have hlist : ∀ e ∈ oj.after, Region.binds md e = true → ¬ l.getD e.on true = false := fun e he hb h0 => by
        have h1 := hall e he hb
        rcases Nat.lt_or_ge e.on l.size with h' | h'
        · simp [h'] at h0 h1; rw [h0] at h1; cases h1
        · simp [Array.getElem?_eq_none h'] at h1
      have hnot : ∀ e ∈ oj.after, Region.binds md e = true → e.on ≠ i := fun e he hb heq => by
        have h0 := (mem_ready.1 hr).1
        exact hlist e he hb (by rw [heq]; exact h0)
      have hjD : j ∉ D := fun hm => by
        rcases hD j hm with h | ⟨oj', e, ho, he, hb, hm'⟩
        · exact hji h
        · rw [hoj] at ho; cases ho
          exact hlist e he hb (hDl _ hm')
      have hhj := hh j hjun hjD
      have h2 := wpOp_putIf hoj (hfree j oj hoj hji hjun hnot) (fun cs b => hsel i oi cs b hi) (fun cs b => hsel j oj cs b hoj) hQ hy h1
      refine wpOp_mono (fun a' w' h3 => ?_) h2
      obtain ⟨hy', S', R', hS', hSR', hsub, hg⟩ := h3
      refine ⟨S', R', hS', hSR', hsub, ih (l.setIfInBounds j true) R' S' a' hSR' ?_ ?_ ?_ (ready_mono hr (Ne.symm hji)) ?_ ?_⟩
      · intro k hk
        rw [getD_set_ne true (fun (e : j = k) => hjD (by rw [e]; exact hk))]
        exact hDl k hk
      · intro k hk hkD
        by_cases hjk : j = k
        · subst hjk; exact hhj
        · rw [getD_set_ne true hjk] at hk; exact hh k hk hkD
      · intro k ok hk hki hun hno
        refine hfree k ok hk hki ?_ hno
        by_cases hjk : j = k
        · subst hjk; exact hjun
        · rw [getD_set_ne true hjk] at hun; exact hun
      · exact hy'.imp (fun ⟨a, b⟩ => ⟨a, fun w hw => b w (hsub hhj w hw)⟩) id
      · rw [Array.setIfInBounds_comm _ _ hji]
        exact hg

theorem G_pure {i : Nat} {oi : Oper} {v : Value} (hi : ops[i]? = some oi) (hsel : ∀ (j : Nat) (o : Oper) cs b, ops[j]? = some o → o.op ≠ .select cs b)
    (hQ : ∀ c a w, Q (.panic c) (a.put oi.dst v) w → Q (.panic c) a w) :
    ∀ (n : Nat) (l : Array Bool) (R S : World → Prop) (a : Act), (∀ w, S w → R w) →
      (∀ j oj, ops[j]? = some oj → j ≠ i → l.getD j true = false → (∀ e ∈ oj.after, Region.binds md e = true → e.on ≠ i) → oi.apart ops oj = true) →
      i ∈ Region.ready md ops l → YieldsIf P ops (fun _ => True) oi v a →
      G P md ops Q hold n (l.setIfInBounds i true) R S (a.put oi.dst v) → G P md ops Q hold (n + 1) l R S a := by
  intro n
  induction n with
  | zero =>
    intro l R S a hSR hfree hr hy H
    refine ⟨fun h => (by rw [h] at hr; cases hr), fun j hj w hS => ?_⟩
    by_cases hji : j = i
    · subst hji; exact hy.wpOp hi trivial ⟨S, R, hS, hSR, fun _ _ h => h, H⟩
    · have := ready_mono hj hji
      rw [H.1] at this
      cases this
  | succ n ih =>
    intro l R S a hSR hfree hr hy H
    refine ⟨fun h => (by rw [h] at hr; cases hr), fun j hj w hS => ?_⟩
    by_cases hji : j = i
    · subst hji; exact hy.wpOp hi trivial ⟨S, R, hS, hSR, fun _ _ h => h, H⟩
    · have h1 := H.2 j (ready_mono hj hji) w hS
      obtain ⟨hjun, oj, hoj, hall⟩ := mem_ready.1 hj
      have hnot : ∀ e ∈ oj.after, Region.binds md e = true → e.on ≠ i := fun e he hb heq => by
        have h1 := hall e he hb
        have h0 := (mem_ready.1 hr).1
        rw [heq] at h1
        rcases Nat.lt_or_ge i l.size with h' | h'
        · simp [h'] at h0 h1; rw [h0] at h1; cases h1
        · simp [Array.getElem?_eq_none h'] at h1
      have h2 := wpOp_putIf hoj (hfree j oj hoj hji hjun hnot) (fun cs b => hsel i oi cs b hi) (fun cs b => hsel j oj cs b hoj) hQ hy h1
      refine wpOp_mono (fun a' w' h3 => ?_) h2
      obtain ⟨hy', S', R', hS', hSR', hsub, hg⟩ := h3
      refine ⟨S', R', hS', hSR', hsub, ih (l.setIfInBounds j true) R' S' a' hSR' ?_ (ready_mono hr (Ne.symm hji)) hy' ?_⟩
      · intro k ok hk hki hun hno
        refine hfree k ok hk hki ?_ hno
        by_cases hjk : j = k
        · subst hjk; exact hjun
        · rw [getD_set_ne true hjk] at hun; exact hun
      · rw [Array.setIfInBounds_comm _ _ hji]
        exact hg

/-- Whichever may come up. -/
theorem G_all {l : Array Bool} {R S : World → Prop} {a : Act} {n : Nat} (rs : List Nat) (hsub : ∀ i ∈ Region.ready md ops l, i ∈ rs) (hne : Region.ready md ops l ≠ [])
    (h : ∀ i ∈ rs, ∀ w, S w → wpOp P ops Q i (fun a' w' => ∃ S' R' : World → Prop, S' w' ∧ (∀ w, S' w → R' w) ∧ (hold i = true → ∀ w, R' w → R w) ∧ G P md ops Q hold n (l.setIfInBounds i true) R' S' a') a w) :
    G P md ops Q hold (n + 1) l R S a := ⟨fun h0 => absurd h0 hne, fun i hi => h i (hsub i hi)⟩

end

/-- How a region that draws its order is gone through: an operation that only reckons, first; a load, first (D: those that wait for it); those that may come up, each. -/
inductive Plan
  | done
  | pure (i : Nat) (p : Plan)
  | load (i : Nat) (D : List Nat) (p : Plan)
  | alt (i : Nat) (p : Plan) (q : Plan)
  | stop

def Plan.alts : Plan → List Nat
  | .alt i _ q => i :: q.alts
  | _ => []

def opAt (ops : Array Oper) (i : Nat) : Oper := ops.getD i ⟨none, .move (.const undef), 0, "", #[], none⟩

def isLoad (o : Oper) : Bool := match o.op with | .load _ _ => true | .lookup _ _ _ _ => true | .call { callee := .builtin .len, .. } => true | _ => false

/-- An operation's value in every world that meets S. -/
def yieldK (P : Program) (S : World → Prop) (o : Oper) (env : List Value) (K : Value → Prop) : Prop :=
  match o.op with
  | .move x | .assign x => K (ev env x)
  | .pick c a b => pickK P (ev env c) (ev env a) (ev env b) K
  | _ =>
    match semP (ev env) o with
    | some s => Pu P s K
    | none =>
      match isLoad o with
      | true => (match semM (ev env) o with
        | some s => ∃ v, (∀ w, S w → s.run P w = .ok v w) ∧ K v
        | none => False)
      | false => False

def wpG (P : Program) (ops : Array Oper) (hold : Nat → Bool) (K : List Value → World → Prop) : Plan → List Nat → List Value → (World → Prop) → (World → Prop) → Prop
  | .done, _, env, _, S => ∀ w, S w → K env w
  | .pure i p, kn, env, R, S => guardK ops (opAt ops i) kn env
      (fun env => yieldK P (fun _ => True) (opAt ops i) env fun v => wpG P ops hold K p (keepKn ops (opAt ops i) kn) (putE env (opAt ops i).dst v) R S)
      (fun env => wpG P ops hold K p (i :: keepKn ops (opAt ops i) kn) (putE env (opAt ops i).dst undef) R S)
  | .load i _ p, kn, env, R, S => guardK ops (opAt ops i) kn env
      (fun env => yieldK P R (opAt ops i) env fun v => wpG P ops hold K p (keepKn ops (opAt ops i) kn) (putE env (opAt ops i).dst v) R S)
      (fun env => wpG P ops hold K p (i :: keepKn ops (opAt ops i) kn) (putE env (opAt ops i).dst undef) R S)
  | .alt i p q, kn, env, R, S =>
      (∀ w, S w → stepO P ops i (opAt ops i) kn env w fun kn env w' => ∃ S' R' : World → Prop, S' w' ∧ (∀ w, S' w → R' w) ∧ (match hold i with | true => ∀ w, R' w → R w | false => True) ∧ wpG P ops hold K p kn env R' S') ∧
      wpG P ops hold K q kn env R S
  | .stop, _, _, _, _ => True

/-- The plan fits the region. -/
def Plan.ok (ops : Array Oper) (hold : Nat → Bool) : Plan → List Nat → Nat → Array Bool → Bool
  | .done, _, _, l => (Region.ready .any ops l).isEmpty
  | .pure i p, _, n, l =>
    match n with
    | 0 => false
    | n + 1 => decide (i < ops.size) && Region.free .any ops l i && (Region.ready .any ops l).contains i && p.ok ops hold [] n (l.setIfInBounds i true)
  | .load i D p, _, n, l =>
    match n with
    | 0 => false
    | n + 1 => decide (i < ops.size) && Region.free .any ops l i && (Region.ready .any ops l).contains i &&
      D.all (fun j => !l.getD j true && (j == i || (decide (j < ops.size) && (opAt ops j).after.toList.any fun e => Region.binds .any e && D.contains e.on))) &&
      (List.range l.size).all (fun j => l.getD j true || D.contains j || hold j) &&
      p.ok ops hold [] n (l.setIfInBounds i true)
  | .alt i p q, acc, n, l =>
    match n with
    | 0 => false
    | n + 1 => decide (i < ops.size) && p.ok ops hold [] n (l.setIfInBounds i true) && q.ok ops hold (i :: acc) (n + 1) l
  | .stop, acc, n, l =>
    match n with
    | 0 => false
    | _ + 1 => (Region.ready .any ops l).all (acc.contains ·) && !(Region.ready .any ops l).isEmpty

theorem semL_run {P : Program} {ρ : Operand → Value} {o : Oper} {s : Sem Value} (hl : isLoad o = true) (hs : semM ρ o = some s) {w w' : World} {v : Value} (h : s.run P w = .ok v w') :
    (execOp ρ o).run P w = .ok (.value v) w' := by
  obtain ⟨dst, op, type, pos, after, guard⟩ := o
  cases op with
  | call c =>
    obtain ⟨callee, args, argTypes⟩ := c
    cases callee with
    | builtin b => cases b <;> first | (cases hl; done) | (cases hs; rw [mapA_eq] at h; exact run_toValue h)
    | _ => cases hl
  | _ => first | (cases hl; done) | (cases hs; exact run_toValue h)

theorem opAt_eq {ops : Array Oper} {i : Nat} (h : i < ops.size) : ops[i]? = some (opAt ops i) := by
  unfold opAt
  rw [Array.getD_eq_getD_getElem?, Array.getElem?_eq_getElem h]; rfl

theorem yieldK_sound {P : Program} {S : World → Prop} {ops : Array Oper} {o : Oper} {env : List Value} {K : Value → Prop} (hw : Region.wanted o (yielded ops (mkA ds env).tmps) = true) (h : yieldK P S o env K) :
    ∃ v, YieldsIf P ops S o v (mkA ds env) ∧ K v := by
  have gen : (match semP (ev env) o with
    | some s => Pu P s K
    | none =>
      match isLoad o with
      | true => (match semM (ev env) o with
        | some s => ∃ v, (∀ w, S w → s.run P w = .ok v w) ∧ K v
        | none => False)
      | false => False) → ∃ v, YieldsIf P ops S o v (mkA ds env) ∧ K v := by
    intro h
    split at h
    · rename_i s hs
      obtain ⟨v, hv, hk⟩ := h
      exact ⟨v, .inl ⟨hw, fun w _ => by rw [mkA_eval]; exact semP_run hs (hv w)⟩, hk⟩
    · split at h
      · rename_i hl
        split at h
        · rename_i s hs
          obtain ⟨v, hv, hk⟩ := h
          exact ⟨v, .inl ⟨hw, fun w hS => by rw [mkA_eval]; exact semL_run hl hs (hv w hS)⟩, hk⟩
        · exact h.elim
      · exact h.elim
  unfold yieldK at h
  split at h
  · rename_i x hx
    refine ⟨_, .inl ⟨hw, fun w _ => ?_⟩, h⟩
    rw [mkA_eval]
    obtain ⟨dst, op, type, pos, after, guard⟩ := o
    simp only at hx
    subst hx
    rfl
  · rename_i x hx
    refine ⟨_, .inl ⟨hw, fun w _ => ?_⟩, h⟩
    rw [mkA_eval]
    obtain ⟨dst, op, type, pos, after, guard⟩ := o
    simp only at hx
    subst hx
    rfl
  · rename_i c a b hx
    obtain ⟨v, hv, hk⟩ := pickK_elim h
    exact ⟨v, .inl ⟨hw, fun w _ => by rw [mkA_eval]; exact semP_run (s := pickS (ev env c) (ev env a) (ev env b)) (by unfold semP; rw [hx]) (hv w)⟩, hk⟩
  · exact gen h

theorem wpG_sound {P : Program} {ops : Array Oper} {hold : Nat → Bool} {K : List Value → World → Prop} {Q : Exit → Act → World → Prop} (hK : ∀ env w, K env w → Q .normal (mkA ds env) w)
    (hQ : ∀ c a w, ¬ Q (.panic c) a w) (hsel : Region.noSelect ops = true) :
    ∀ (p : Plan) (acc : List Nat) (n : Nat) (l : Array Bool) (kn : List Nat) (env : List Value) (R S : World → Prop), (∀ w, S w → R w) → l.size = ops.size → p.ok ops hold acc n l = true → KnOk ops kn env → wpG P ops hold K p kn env R S →
      (∀ m, n = m + 1 → ∀ i ∈ acc, ∀ w, S w → wpOp P ops Q i (fun a' w' => ∃ S' R' : World → Prop, S' w' ∧ (∀ w, S' w → R' w) ∧ (hold i = true → ∀ w, R' w → R w) ∧ G P .any ops Q hold m (l.setIfInBounds i true) R' S' a') (mkA ds env) w) →
      G P .any ops Q hold n l R S (mkA ds env) := by
  intro p
  induction p with
  | done =>
    intro acc n l kn env R S hSR hsz hok hk h _
    simp only [Plan.ok, List.isEmpty_iff] at hok
    exact G_done hok (fun w hS => hK _ _ (h w hS)) n
  | pure i p ih =>
    intro acc n l kn env R S hSR hsz hok hk h _
    cases n with
    | zero => cases hok
    | succ n =>
      simp only [Plan.ok, Bool.and_eq_true, decide_eq_true_eq] at hok
      obtain ⟨⟨⟨hi, hfree⟩, hr⟩, hp⟩ := hok
      have ho := opAt_eq hi
      have fin : ∀ v kn2, KnOk ops kn2 (putE env (opAt ops i).dst v) → YieldsIf P ops (fun _ => True) (opAt ops i) v (mkA ds env) → wpG P ops hold K p kn2 (putE env (opAt ops i).dst v) R S → G P .any ops Q hold (n + 1) l R S (mkA ds env) := by
        intro v kn2 hk2 hy hv
        refine G_pure ho (Region.noSelect_spec hsel) (fun c a w hq => absurd hq (hQ _ _ _)) n l R S _ hSR (Region.free_spec ho hfree) (by simpa using hr) hy ?_
        rw [mkA_put]
        exact ih [] n _ _ _ R S hSR (by simpa using hsz) hp hk2 hv (fun m hm i hi => by cases hi)
      rcases guardK_sound hk h with ⟨hw, h⟩ | ⟨hw, h⟩
      · obtain ⟨v, hy, hv⟩ := yieldK_sound hw h
        exact fin v _ (keepKn_ok hk v) hy hv
      · exact fin undef _ (skipKn_ok ho hk) (.inr ⟨hw, rfl⟩) h
  | load i D p ih =>
    intro acc n l kn env R S hSR hsz hok hk h _
    cases n with
    | zero => cases hok
    | succ n =>
      simp only [Plan.ok, Bool.and_eq_true, decide_eq_true_eq] at hok
      obtain ⟨⟨⟨⟨⟨hi, hfree⟩, hr⟩, hD⟩, hh⟩, hp⟩ := hok
      have ho := opAt_eq hi
      rw [List.all_eq_true] at hD hh
      have fin : ∀ v kn2, KnOk ops kn2 (putE env (opAt ops i).dst v) → YieldsIf P ops R (opAt ops i) v (mkA ds env) → wpG P ops hold K p kn2 (putE env (opAt ops i).dst v) R S → G P .any ops Q hold (n + 1) l R S (mkA ds env) := by
        intro v kn2 hk2 hy hv
        refine G_load ho (Region.noSelect_spec hsel) (fun c a w hq => absurd hq (hQ _ _ _)) D ?_ n l R S _ hSR ?_ ?_ (Region.free_spec ho hfree) (by simpa using hr) hy ?_
        · intro j hj
          have := hD j hj
          simp only [Bool.and_eq_true, Bool.or_eq_true, beq_iff_eq, decide_eq_true_eq] at this
          rcases this.2 with h | ⟨hlt, h⟩
          · exact .inl h
          · obtain ⟨e, he, hb⟩ := List.any_eq_true.1 h
            simp only [Bool.and_eq_true] at hb
            exact .inr ⟨_, e, opAt_eq hlt, by simpa using he, hb.1, by simpa using hb.2⟩
        · intro j hj
          have := hD j hj
          simp only [Bool.and_eq_true, Bool.not_eq_true'] at this
          exact this.1
        · intro j hj hjD
          have hjl : j < l.size := by
            rcases Nat.lt_or_ge j l.size with h | h
            · exact h
            · simp [Array.getD_eq_getD_getElem?, Array.getElem?_eq_none h] at hj
          have := hh j (by simpa using hjl)
          simp only [Bool.or_eq_true, hj, Bool.false_eq_true, false_or] at this
          rcases this with h | h
          · exact absurd (by simpa using h) hjD
          · exact h
        · rw [mkA_put]
          exact ih [] n _ _ _ R S hSR (by simpa using hsz) hp hk2 hv (fun m hm i hi => by cases hi)
      rcases guardK_sound hk h with ⟨hw, h⟩ | ⟨hw, h⟩
      · obtain ⟨v, hy, hv⟩ := yieldK_sound hw h
        exact fin v _ (keepKn_ok hk v) hy hv
      · exact fin undef _ (skipKn_ok ho hk) (.inr ⟨hw, rfl⟩) h
  | alt i p q ihp ihq =>
    intro acc n l kn env R S hSR hsz hok hk h hacc
    cases n with
    | zero => cases hok
    | succ n =>
      simp only [Plan.ok, Bool.and_eq_true, decide_eq_true_eq] at hok
      obtain ⟨⟨hi, hp⟩, hq⟩ := hok
      have ho := opAt_eq hi
      obtain ⟨h1, h2⟩ := h
      refine ihq (i :: acc) (n + 1) l kn env R S hSR hsz hq hk h2 ?_
      intro m hm j hj w hS
      rcases List.mem_cons.1 hj with rfl | hj
      · cases hm
        have h := stepO_sound (Q := Q) (K' := fun a' w' => ∃ S' R' : World → Prop, S' w' ∧ (∀ w, S' w → R' w) ∧ (hold j = true → ∀ w, R' w → R w) ∧ G P .any ops Q hold n (l.setIfInBounds j true) R' S' a') ho hk (h1 w hS) (by
          rintro kn' env' w' hk' ⟨S', R', hS', hSR', hsub, hg⟩
          refine ⟨S', R', hS', hSR', ?_, ihp [] n _ kn' env' R' S' hSR' (by simpa using hsz) hp hk' hg (fun m hm i hi => by cases hi)⟩
          intro hh
          rw [hh] at hsub
          exact hsub)
        unfold wpOp
        rw [ho]
        simp only
        split
        · rename_i hw; rw [if_pos hw] at h; exact .inl h
        · rename_i hw; rw [if_neg hw] at h; exact h
      · exact hacc m hm j hj w hS
  | stop =>
    intro acc n l kn env R S hSR hsz hok hk h hacc
    cases n with
    | zero => cases hok
    | succ n =>
      simp only [Plan.ok, Bool.and_eq_true, Bool.not_eq_true', List.isEmpty_eq_false_iff, ne_eq] at hok
      refine G_all acc ?_ hok.2 (hacc n rfl)
      intro i hi
      have := List.all_eq_true.1 hok.1 i hi
      simpa using this

/-! ### The code -/

def allV : Nat → (List Value → Prop) → Prop
  | 0, p => p []
  | n + 1, p => ∀ v, allV n fun l => p (v :: l)

theorem allV_iff : ∀ {n : Nat} {p : List Value → Prop}, allV n p ↔ ∀ l : List Value, l.length = n → p l
  | 0, p => ⟨fun h l hl => by rw [List.length_eq_zero_iff.1 hl]; exact h, fun h => h [] rfl⟩
  | n + 1, p => ⟨fun h l hl => by
      cases l with
      | nil => cases hl
      | cons v l => exact allV_iff.1 (h v) l (by simpa using hl), fun h v => allV_iff.2 fun l hl => h (v :: l) (by simp [hl])⟩

/-- A function of n values. -/
def FN (β : Type) : Nat → Type
  | 0 => β
  | n + 1 => Value → FN β n

def FN.ap {β : Type} : {n : Nat} → FN β n → List Value → β
  | 0, f, _ => f
  | _ + 1, f, v :: l => FN.ap (n := _) (f v) l
  | _ + 1, f, [] => FN.ap (n := _) (f undef) []

/-- The temporaries that code writes. -/
def dsts : List Oper → List Nat
  | [] => []
  | o :: l => match o.dst with | some d => d :: dsts l | none => dsts l

def writes : Code → List Nat
  | .region _ ops _ => dsts ops.toList
  | .seq a b => writes a ++ writes b
  | .cond _ a b => writes a ++ writes b
  | .block _ c => writes c
  | .loop c => writes c
  | _ => []

def setMany : List Value → List Nat → List Value → List Value
  | env, d :: ds, v :: vs => setMany (setL env d v) ds vs
  | env, _, _ => env

/-- What the reading wants besides the code: the temporaries that a loop hands on (by the first region in it), how a drawing region is gone through. -/
structure Ann where
  loop : Nat → List Nat
  plan : Nat → Plan
  hold : Nat → Nat → Bool
  join : Nat → Option (List Nat)

def firstR : Code → Nat
  | .region id _ _ => id
  | .seq a _ => firstR a
  | .block _ c => firstR c
  | .loop c => firstR c
  | _ => 0

/-- The temporaries that a loop's rounds may find otherwise: each but once. -/
def dedup : List Nat → List Nat
  | [] => []
  | d :: l => match l.any (Nat.beq d) with
    | true => dedup l
    | false => d :: dedup l

def pickE (env : List Value) (ds : List Nat) : List Value := ds.map (nth env)

def wpC (P : Program) (A : Ann) : Code → (Exit → List Value → World → Prop) → List Value → World → Prop
  | .skip, K, env, w => K .normal env w
  | .region _ ops false, K, env, w => wpL P ops (K .normal) ops.toList 0 [] env w
  | .region id ops true, K, env, w => ∃ S R : World → Prop, S w.drew ∧ (∀ w, S w → R w) ∧ wpG P ops (A.hold id) (K .normal) (A.plan id) [] env R S
  | .seq a b, K, env, w =>
    match A.join (firstR b) with
    | none => wpC P A a (fun e env w => match e with | .normal => wpC P A b K env w | e => K e env w) env w
    | some D => ∃ J : FN (World → Prop) D.length,
        wpC P A a (fun e env w => match e with | .normal => J.ap (pickE env D) w | e => K e env w) env w ∧
        allV (dedup (writes a)).length fun us => ∀ w', J.ap (pickE (setMany env (dedup (writes a)) us) D) w' → wpC P A b K (setMany env (dedup (writes a)) us) w'
  | .cond c a b, K, env, w => condV (ev env c) (wpC P A a K env w) (wpC P A b K env w)
  | .block id c, K, env, w => wpC P A c (fun e env w => match e with
      | .exit i => (match Nat.beq i id with | true => K .normal env w | false => K (.exit i) env w)
      | e => K e env w) env w
  | .loop c, K, env, w =>
    ∃ (I : FN (World → Prop) (A.loop (firstR c)).length) (μ : FN (World → Nat) (A.loop (firstR c)).length),
      I.ap (pickE env (A.loop (firstR c))) w ∧
      allV (dedup (writes c)).length fun us => ∀ w', I.ap (pickE (setMany env (dedup (writes c)) us) (A.loop (firstR c))) w' →
        wpC P A c (fun e env' w'' => match e with
          | .normal => I.ap (pickE env' (A.loop (firstR c))) w'' ∧ μ.ap (pickE env' (A.loop (firstR c))) w'' < μ.ap (pickE (setMany env (dedup (writes c)) us) (A.loop (firstR c))) w'
          | e => K e env' w'') (setMany env (dedup (writes c)) us) w'
  | .ret, K, env, w => K .ret env w
  | .exit id, K, env, w => K (.exit id) env w
  | _, _, _, _ => False

/-- The plans fit. -/
def okC (A : Ann) : Code → Bool
  | .region id ops true => Region.noSelect ops && (A.plan id).ok ops (A.hold id) [] ops.size (Array.replicate ops.size false)
  | .seq a b => okC A a && okC A b
  | .cond _ a b => okC A a && okC A b
  | .block _ c => okC A c
  | .loop c => okC A c
  | _ => true

/-- But for the temporaries W as it was. -/
def Inv (W : List Nat) (env0 env : List Value) : Prop := env.length = env0.length ∧ ∀ t, t ∉ W → nth env t = nth env0 t

theorem setL_length : ∀ (env : List Value) (d : Nat) (v : Value), (setL env d v).length = env.length := by
  intro env d v; rw [setL_eq]; simp

theorem putE_inv {W : List Nat} {env0 env : List Value} (h : Inv W env0 env) (d : Option Nat) (hd : ∀ x, d = some x → x ∈ W) (v : Value) : Inv W env0 (putE env d v) := by
  cases d with
  | none => exact h
  | some x =>
    refine ⟨by simp only [putE, setL_length]; exact h.1, fun t ht => ?_⟩
    simp only [putE]
    rw [nth_setL_ne v (fun (e : x = t) => ht (by rw [← e]; exact hd x rfl))]
    exact h.2 t ht

theorem opN_mono {P : Program} {o : Oper} {env : List Value} {w : World} {K K' : Value → World → Prop} (h : opN P o env w K) (hK : ∀ v w, K v w → K' v w) : opN P o env w K' := by
  have cl : ∀ {f args}, Cl P f args w K → Cl P f args w K' := fun ⟨he, hc⟩ => ⟨he, Calls.mono hc fun e w' ⟨v, hv, hk⟩ => ⟨v, hv, hK _ _ hk⟩⟩
  unfold opN at h ⊢
  split at h
  · exact hK _ _ h
  · exact hK _ _ h
  · exact pickK_mono h fun v => hK v _
  · exact cl h
  · obtain ⟨f, a, b, hv, hc⟩ := h; exact ⟨f, a, b, hv, cl hc⟩
  · split at h
    · obtain ⟨v, hv, hk⟩ := h; exact ⟨v, hv, hK _ _ hk⟩
    · split at h
      · obtain ⟨v, w', hv, hk⟩ := h; exact ⟨v, w', hv, hK _ _ hk⟩
      · exact h.elim

theorem stepO_mono {P : Program} {ops : Array Oper} {i : Nat} {o : Oper} {kn : List Nat} {env : List Value} {w : World} {K K' : List Nat → List Value → World → Prop}
    (h : stepO P ops i o kn env w K) (hK : ∀ kn v w', K kn (putE env o.dst v) w' → K' kn (putE env o.dst v) w') : stepO P ops i o kn env w K' :=
  guardK_mono h (fun h => opN_mono h fun v w' => hK _ _ _) (fun h => hK _ _ _ h)

theorem dsts_mem {l : List Oper} {o : Oper} (h : o ∈ l) {x : Nat} (hx : o.dst = some x) : x ∈ dsts l := by
  induction l with
  | nil => cases h
  | cons p l ih =>
    simp only [dsts]
    rcases List.mem_cons.1 h with rfl | h
    · rw [hx]; simp
    · split
      · exact List.mem_cons_of_mem _ (ih h)
      · exact ih h

theorem wpL_inv {P : Program} {ops : Array Oper} {K : List Value → World → Prop} {W : List Nat} {env0 : List Value} :
    ∀ (l : List Oper) (i : Nat) (kn : List Nat) (env : List Value) (w : World), (∀ x ∈ dsts l, x ∈ W) → Inv W env0 env → wpL P ops K l i kn env w → wpL P ops (fun env w => Inv W env0 env ∧ K env w) l i kn env w
  | [], _, _, env, w, _, hi, h => ⟨hi, h⟩
  | o :: l, i, kn, env, w, hW, hi, h => by
    refine stepO_mono h fun kn v w' h => wpL_inv l (i + 1) kn _ w' (fun x hx => hW x ?_) (putE_inv hi o.dst (fun x hx => hW x (dsts_mem (by simp) hx)) v) h
    simp only [dsts]; split
    · exact List.mem_cons_of_mem _ hx
    · exact hx

theorem yieldK_mono {P : Program} {S : World → Prop} {o : Oper} {env : List Value} {K K' : Value → Prop} (h : yieldK P S o env K) (hK : ∀ v, K v → K' v) : yieldK P S o env K' := by
  unfold yieldK at h ⊢
  split at h
  · exact hK _ h
  · exact hK _ h
  · exact pickK_mono h hK
  · split at h
    · obtain ⟨v, hv, hk⟩ := h; exact ⟨v, hv, hK _ hk⟩
    · split at h
      · split at h
        · obtain ⟨v, hv, hk⟩ := h; exact ⟨v, hv, hK _ hk⟩
        · exact h.elim
      · exact h.elim

theorem opAt_dst {ops : Array Oper} {i x : Nat} (h : (opAt ops i).dst = some x) : x ∈ dsts ops.toList := by
  unfold opAt at h
  rw [Array.getD_eq_getD_getElem?] at h
  cases ho : ops[i]? with
  | none => rw [ho] at h; cases h
  | some o => rw [ho] at h; exact dsts_mem (by simpa using Array.mem_of_getElem? ho) h

theorem wpG_inv {P : Program} {ops : Array Oper} {hold : Nat → Bool} {K : List Value → World → Prop} {W : List Nat} {env0 : List Value} (hW : ∀ x ∈ dsts ops.toList, x ∈ W) :
    ∀ (p : Plan) (kn : List Nat) (env : List Value) (R S : World → Prop), Inv W env0 env → wpG P ops hold K p kn env R S → wpG P ops hold (fun env w => Inv W env0 env ∧ K env w) p kn env R S := by
  intro p
  induction p with
  | done => exact fun kn env R S hi h w hS => ⟨hi, h w hS⟩
  | pure i p ih =>
    intro kn env R S hi h
    exact guardK_mono h (fun h => yieldK_mono h fun v h => ih _ _ _ _ (putE_inv hi _ (fun x hx => hW x (opAt_dst hx)) v) h) (fun h => ih _ _ _ _ (putE_inv hi _ (fun x hx => hW x (opAt_dst hx)) _) h)
  | load i D p ih =>
    intro kn env R S hi h
    exact guardK_mono h (fun h => yieldK_mono h fun v h => ih _ _ _ _ (putE_inv hi _ (fun x hx => hW x (opAt_dst hx)) v) h) (fun h => ih _ _ _ _ (putE_inv hi _ (fun x hx => hW x (opAt_dst hx)) _) h)
  | alt i p q ihp ihq =>
    intro kn env R S hi h
    refine ⟨fun w hS => stepO_mono (h.1 w hS) ?_, ihq _ _ _ _ hi h.2⟩
    rintro kn v w' ⟨S', R', hS', hSR', hsub, hg⟩
    exact ⟨S', R', hS', hSR', hsub, ihp _ _ _ _ (putE_inv hi _ (fun x hx => hW x (opAt_dst hx)) v) hg⟩
  | stop => exact fun _ _ _ _ _ _ => trivial

theorem mem_dedup : ∀ {l : List Nat} {x : Nat}, x ∈ dedup l ↔ x ∈ l
  | [], _ => Iff.rfl
  | d :: l, x => by
    simp only [dedup]
    split
    · rename_i h
      rw [mem_dedup]
      constructor
      · exact List.mem_cons_of_mem _
      · intro hx
        rcases List.mem_cons.1 hx with rfl | hx
        · obtain ⟨y, hy, he⟩ := List.any_eq_true.1 h
          have := Nat.eq_of_beq_eq_true he
          subst this
          exact hy
        · exact hx
    · simp only [List.mem_cons, mem_dedup]

theorem nth_ext : ∀ {a b : List Value}, a.length = b.length → (∀ t, nth a t = nth b t) → a = b
  | [], [], _, _ => rfl
  | x :: a, y :: b, hl, h => by
    have h0 := h 0
    simp only [nth] at h0
    rw [h0, nth_ext (a := a) (b := b) (by simpa using hl) (fun t => h (t + 1))]
  | [], _ :: _, hl, _ => by cases hl
  | _ :: _, [], hl, _ => by cases hl

theorem nth_setL_self {env : List Value} {d : Nat} {v : Value} (h : d < env.length) : nth (setL env d v) d = v := by
  rw [nth_eq, setL_eq]; simp [h]

theorem setMany_of_inv : ∀ (ds : List Nat) (env0 env : List Value), Inv ds env0 env → setMany env0 ds (pickE env ds) = env
  | [], env0, env, h => by
    show env0 = env
    exact nth_ext h.1.symm fun t => (h.2 t (by simp)).symm
  | d :: ds, env0, env, h => by
    show setMany (setL env0 d (nth env d)) ds (pickE env ds) = env
    refine setMany_of_inv ds _ env ⟨by rw [setL_length]; exact h.1, fun t ht => ?_⟩
    by_cases hd : t = d
    · subst hd
      by_cases hlt : t < env0.length
      · rw [nth_setL_self hlt]
      · have e1 : nth env t = undef := by rw [nth_eq, List.getElem?_eq_none (by rw [h.1]; omega)]; rfl
        have e2 : nth (setL env0 t (nth env t)) t = undef := by rw [nth_eq, List.getElem?_eq_none (by rw [setL_length]; omega)]; rfl
        rw [e1] at e2 ⊢; exact e2.symm
    · rw [nth_setL_ne _ (fun e => hd e.symm)]
      exact h.2 t (by simp [hd, ht])

theorem inv_setMany : ∀ (ds : List Nat) (env : List Value) (vs : List Value), Inv ds env (setMany env ds vs)
  | [], env, _ => by simp only [setMany]; exact ⟨rfl, fun _ _ => rfl⟩
  | _ :: _, env, [] => by simp only [setMany]; exact ⟨rfl, fun _ _ => rfl⟩
  | d :: ds, env, v :: vs => by
    have h := inv_setMany ds (setL env d v) vs
    refine ⟨by rw [← setL_length env d v]; exact h.1, fun t ht => ?_⟩
    simp only [List.mem_cons, not_or] at ht
    show nth (setMany (setL env d v) ds vs) t = _
    rw [h.2 t ht.2, nth_setL_ne _ (fun e => ht.1 e.symm)]

theorem Inv.trans {W : List Nat} {a b c : List Value} (h : Inv W a b) (k : Inv W b c) : Inv W a c := ⟨k.1.trans h.1, fun t ht => (k.2 t ht).trans (h.2 t ht)⟩
theorem Inv.mono {W W' : List Nat} {a b : List Value} (h : Inv W a b) (hW : ∀ x ∈ W, x ∈ W') : Inv W' a b := ⟨h.1, fun t ht => h.2 t fun hx => ht (hW t hx)⟩

theorem mkA_inj {a b : List Value} (h : mkA ds a = mkA ds b) : a = b := by
  have := congrArg (fun x => x.tmps.toList) h
  simpa [mkA] using this

theorem wpC_sound {P : Program} {A : Ann} (hm : P.follows .mixedOrders = true) : ∀ (c : Code) (W : List Nat) (env0 env : List Value) (w : World) (K : Exit → List Value → World → Prop) (Q : Exit → Act → World → Prop),
    okC A c = true → (∀ x ∈ writes c, x ∈ W) → Inv W env0 env → (∀ c a w, ¬ Q (.panic c) a w) → wpC P A c K env w → (∀ e env w, Inv W env0 env → K e env w → Q e (mkA ds env) w) → c.wp P Q (mkA ds env) w := by
  intro c
  induction c with
  | skip => exact fun W env0 env w K Q _ _ hi _ h hK => wp_skip (hK _ _ _ hi h)
  | region id ops draw =>
    intro W env0 env w K Q hok hW hi hQ h hK
    cases draw with
    | false =>
      exact wp_region_list (wpL_sound (K := fun env w => Inv W env0 env ∧ K .normal env w) (fun env w h => hK _ _ _ h.1 h.2) _ 0 _ _ _ (by simp) (fun p hp => by cases hp) (wpL_inv _ _ _ _ _ hW hi h))
    | true =>
      obtain ⟨S, R, hS, hSR, h⟩ := h
      simp only [okC, Bool.and_eq_true] at hok
      refine wp_region_any hm ?_
      refine G_sound (hold := A.hold id) _ _ R S _ _ hS ?_
      exact wpG_sound (K := fun env w => Inv W env0 env ∧ K .normal env w) (fun env w h => hK _ _ _ h.1 h.2) hQ hok.1 (A.plan id) [] _ _ [] env R S hSR (by simp) hok.2 (fun p hp => by cases hp)
        (wpG_inv hW _ _ _ _ _ hi h) (fun m hm i hi => by cases hi)
  | seq a b iha ihb =>
    intro W env0 env w K Q hok hW hi hQ h hK
    simp only [okC, Bool.and_eq_true] at hok
    simp only [writes, List.mem_append] at hW
    unfold wpC at h
    split at h
    · refine wp_seq (iha W env0 env w _ _ hok.1 (fun x hx => hW x (.inl hx)) hi ?_ h ?_)
      · intro c a w; exact hQ c a w
      · intro e env w hi h
        cases e with
        | normal => exact ihb W env0 env w K Q hok.2 (fun x hx => hW x (.inr hx)) hi hQ h hK
        | _ => exact hK _ _ _ hi h
    · rename_i D hD
      obtain ⟨J, h1, h2⟩ := h
      rw [allV_iff] at h2
      refine wp_seq (iha (writes a) env env w _ _ hok.1 (fun x hx => hx) ⟨rfl, fun _ _ => rfl⟩ ?_ h1 ?_)
      · intro c a w; exact hQ c a w
      · intro e env' w' hi' h
        have hout : Inv W env0 env' := hi.trans (hi'.mono fun x hx => hW x (.inl hx))
        cases e with
        | normal =>
          have e := setMany_of_inv (dedup (writes a)) env env' (hi'.mono fun x hx => mem_dedup.2 hx)
          have h2' := h2 (pickE env' (dedup (writes a))) (by simp [pickE]) w'
          rw [e] at h2'
          exact ihb W env0 env' w' K Q hok.2 (fun x hx => hW x (.inr hx)) hout hQ (h2' h) hK
        | _ => exact hK _ _ _ hout h
  | cond c a b iha ihb =>
    intro W env0 env w K Q hok hW hi hQ h hK
    simp only [okC, Bool.and_eq_true] at hok
    simp only [writes, List.mem_append] at hW
    obtain ⟨t, ht, h1, h2⟩ := condV_elim h
    refine wp_cond_split (t := t) (by rw [mkA_eval]; exact ht) (fun e => ?_) (fun e => ?_)
    · exact iha W env0 env w K Q hok.1 (fun x hx => hW x (.inl hx)) hi hQ (h1 e) hK
    · exact ihb W env0 env w K Q hok.2 (fun x hx => hW x (.inr hx)) hi hQ (h2 e) hK
  | block id c ih =>
    intro W env0 env w K Q hok hW hi hQ h hK
    refine wp_block (ih W env0 env w _ _ hok hW hi ?_ h ?_)
    · intro c a w; exact hQ c a w
    · intro e env w hi h
      cases e with
      | exit i =>
        simp only at h
        simp only [Exit.inBlock]
        split at h
        · rename_i hb
          rw [if_pos (Nat.eq_of_beq_eq_true hb)]
          exact hK _ _ _ hi h
        · rename_i hb
          rw [if_neg (fun e => by subst e; rw [Nat.beq_refl] at hb; cases hb)]
          exact hK _ _ _ hi h
      | _ => exact hK _ _ _ hi h
  | loop c ih =>
    intro W env0 env w K Q hok hW hi hQ h hK
    obtain ⟨I, μ, h0, hr⟩ := h
    rw [allV_iff] at hr
    refine wp_loop (fun a w => ∃ us : List Value, us.length = (dedup (writes c)).length ∧ a = mkA ds (setMany env (dedup (writes c)) us) ∧ I.ap (pickE (setMany env (dedup (writes c)) us) (A.loop (firstR c))) w)
      (fun a w => μ.ap (pickE a.tmps.toList (A.loop (firstR c))) w) ?_ ?_
    · refine ⟨pickE env (dedup (writes c)), by simp [pickE], ?_, ?_⟩
      · rw [setMany_of_inv _ env env ⟨rfl, fun _ _ => rfl⟩]
      · rw [setMany_of_inv _ env env ⟨rfl, fun _ _ => rfl⟩]; exact h0
    · rintro a w' ⟨us, hus, rfl, hI⟩
      have hin : Inv W env (setMany env (dedup (writes c)) us) := (inv_setMany _ _ _).mono fun x hx => hW x (mem_dedup.1 hx)
      refine ih (writes c) (setMany env (dedup (writes c)) us) _ w' _ _ hok (fun x hx => hx) ⟨rfl, fun _ _ => rfl⟩ ?_ (hr us hus w' hI) ?_
      · intro c a w; exact hQ c a w
      · intro e env' w'' hi' h
        have hout : Inv W env0 env' := (hi.trans hin).trans (hi'.mono hW)
        cases e with
        | normal =>
          have hin' : Inv (dedup (writes c)) env env' := (inv_setMany _ _ us).trans (hi'.mono fun x hx => mem_dedup.2 hx)
          have e := setMany_of_inv _ _ _ hin'
          refine ⟨⟨pickE env' (dedup (writes c)), by simp [pickE], by rw [e], by rw [e]; exact h.1⟩, ?_⟩
          simpa [mkA] using h.2
        | _ => exact hK _ _ _ hout h
  | ret => exact fun W env0 env w K Q _ _ hi _ h hK => wp_ret (hK _ _ _ hi h)
  | exit id => exact fun W env0 env w K Q _ _ hi _ h hK => wp_exit (hK _ _ _ hi h)
  | _ => exact fun W env0 env w K Q _ _ hi _ h hK => h.elim

/-! ### A function -/

def resK (P : Program) (K : Value → World → Prop) : List ResultVar → List Value → List Value → World → Prop
  | [], acc, _, w => (match acc with | [v] => K v w | acc => K (.tuple acc.toArray) w)
  | .tmp t :: l, acc, env, w => resK P K l (acc ++ [nth env t]) env w
  | .cell a t :: l, acc, env, w => ∃ v, (Instr.loadAt t (nth env a)).run P w = .ok v w ∧ resK P K l (acc ++ [v]) env w

theorem resK_run {P : Program} {K : Value → World → Prop} {env : List Value} {w : World} : ∀ (l : List ResultVar) (acc : List Value), resK P K l acc env w →
    ∃ vs, (l.mapM (fun r => match r with
      | .tmp t => pure ((mkA ds env).tmps.getD t undef)
      | .cell a t => do loadVar t (← asAddr ((mkA ds env).tmps.getD a undef)) : ResultVar → Sem Value)).run P w = .ok vs w ∧ (match acc ++ vs with | [v] => K v w | l => K (.tuple l.toArray) w)
  | [], acc, h => ⟨[], rfl, by rw [List.append_nil]; exact h⟩
  | .tmp t :: l, acc, h => by
    obtain ⟨vs, hr, hk⟩ := resK_run l _ h
    refine ⟨nth env t :: vs, ?_, by simpa using hk⟩
    rw [List.mapM_cons]
    have : (mkA ds env).tmps.getD t undef = nth env t := by rw [nth_eq]; simp [mkA, Array.getD_eq_getD_getElem?]
    simp only [Sem.run_bind, Sem.run_pure, Result.andThen_ok, this, hr]
  | .cell a t :: l, acc, ⟨v, hv, h⟩ => by
    obtain ⟨vs, hr, hk⟩ := resK_run l _ h
    refine ⟨v :: vs, ?_, by simpa using hk⟩
    rw [List.mapM_cons]
    have e : (mkA ds env).tmps.getD a undef = nth env a := by rw [nth_eq]; simp [mkA, Array.getD_eq_getD_getElem?]
    have hv' : (do loadVar t (← asAddr ((mkA ds env).tmps.getD a undef)) : Sem Value).run P w = .ok v w := by
      rw [e]
      unfold Instr.loadAt at hv
      generalize nth env a = x at *
      unfold Instr.sureAddr at hv
      split at hv
      · rename_i ad
        exact hv
      · rw [Sem.run_bind] at hv; cases hv
    rw [Sem.run_bind, hv']
    simp only [Result.andThen_ok, Sem.run_bind, hr, Sem.run_pure]

def finK (P : Program) (fn : Func) (K : Value → World → Prop) : Exit → List Value → World → Prop
  | .normal, env, w => resK P K fn.results.toList [] env w
  | .ret, env, w => resK P K fn.results.toList [] env w
  | _, _, _ => False

def envOf (args : List Value) : Nat → List Value
  | 0 => args
  | n + 1 => match args with
    | [] => undef :: envOf [] n
    | x :: l => x :: envOf l n

theorem envOf_eq : ∀ (args : List Value) (n : Nat), envOf args n = args ++ List.replicate (n - args.length) undef
  | args, 0 => by simp [envOf]
  | [], n + 1 => by simp [envOf, envOf_eq [] n, List.replicate_succ]
  | x :: l, n + 1 => by simp [envOf, envOf_eq l n]

theorem calls_of_wpC {P : Program} {A : Ann} {f : FuncId} {fn : Func} {c : Code} {args : List Value} {w : World} {K : Value → World → Prop}
    (hm : P.follows .mixedOrders = true) (hf : P.funcs[f]? = some fn) (hb : fn.body = some c) (hok : okC A c = true)
    (h : wpC P A c (finK P fn K) (envOf args fn.ntmps) w) : Calls P f args.toArray w (Rt K) := by
  refine calls_of_wp hf hb ?_
  have e : ({ tmps := args.toArray ++ Array.replicate (fn.ntmps - args.toArray.size) undef, defers := [] } : Act) = mkA [] (envOf args fn.ntmps) := by
    unfold mkA
    rw [envOf_eq]
    congr 1
    apply Array.ext'
    simp
  rw [e]
  refine Code.wp_mono (Q := fun e a w => match e with | .panic _ => False | e => (∃ env, a = mkA [] env ∧ finK P fn K e env w)) ?_ (wpC_sound hm c (writes c) _ _ w (finK P fn K) _ hok (fun x hx => hx) ⟨rfl, fun _ _ => rfl⟩ (fun _ _ _ => id) h ?_)
  · intro e a w h
    have fin : ∀ {env : List Value}, resK P K fn.results.toList [] env w → bodyPost P fn (Rt K) .ret (mkA [] env) w := by
      intro env h
      obtain ⟨vs, hr, hk⟩ := resK_run _ _ h
      refine ⟨rfl, if h : vs.length = 1 then vs[0] else .tuple vs.toArray, ?_, _, rfl, ?_⟩
      · unfold results
        rw [Array.mapM_eq_mapM_toList]
        simp only [map_eq_pure_bind, bind_assoc, pure_bind]
        rw [Sem.run_bind]
        refine (congrArg (fun r => Result.andThen r _) hr).trans ?_
        simp
      · rw [List.nil_append] at hk
        split at hk
        · simpa using hk
        · rename_i hne
          have : ¬ vs.length = 1 := fun hl => by
            match vs, hl with
            | [v], _ => exact hne v rfl
          rw [dif_neg this]; exact hk
    cases e with
    | normal => obtain ⟨env, rfl, h⟩ := h; exact fin h
    | ret => obtain ⟨env, rfl, h⟩ := h; exact fin h
    | panic _ => exact h.elim
    | exit _ => obtain ⟨env, rfl, h⟩ := h; exact h
    | goto _ => obtain ⟨env, rfl, h⟩ := h; exact h
    | outgrown => obtain ⟨env, rfl, h⟩ := h; exact h.elim
  · intro e env w _ h
    cases e with
    | panic _ => exact h
    | _ => exact ⟨env, rfl, h⟩

/-! ### What stands behind the first statements -/

def seqT : Code → Code
  | .seq _ b => b
  | c => c
def onRet (K : List Value → World → Prop) : Exit → List Value → World → Prop
  | .ret, env, w => K env w
  | _, _, _ => False
theorem wp_tail {P : Program} {A : Ann} {ds : List Deferred} {c : Code} {K : List Value → World → Prop} {env : List Value} {w : World} {Q : Exit → Act → World → Prop} (hm : P.follows .mixedOrders = true) (hok : okC A c = true)
    (h : wpC P A c (onRet K) env w) (hK : ∀ env w, K env w → Q .ret (mkA ds env) w) : c.wp P Q (mkA ds env) w :=
  Code.wp_mono (Q := fun e a w => match e with | .ret => ∃ env, a = mkA ds env ∧ K env w | _ => False) (by
    intro e a w h
    cases e <;> first | exact h.elim | skip
    obtain ⟨env, rfl, h⟩ := h
    exact hK env w h)
    (wpC_sound hm c (writes c) env env w (onRet K) _ hok (fun x hx => hx) ⟨rfl, fun _ _ => rfl⟩ (fun _ _ _ => id) h (by
      intro e env w _ h
      cases e <;> first | exact h.elim | exact h | exact ⟨env, rfl, h⟩))

end Go.Proofs.YtlolaieolgmdnaaDoor
