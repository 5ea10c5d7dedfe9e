/-
  A CALCULUS ON THE EVALUATOR, free of fuel: what code comes to from some fuel on. Conditions: as each rule names them.
-/
import Derived.Test.YtnfhojipjhcjjaaGreatDoorAm25
namespace Go.Am
set_option autoImplicit false
set_option linter.unusedVariables false

/-- From some fuel on. -/
def Evt (p : Nat → Prop) : Prop := ∃ n, ∀ m, n ≤ m → p m

theorem Evt.and {p q : Nat → Prop} (h : Evt p) (k : Evt q) : Evt fun m => p m ∧ q m := by
  obtain ⟨a, ha⟩ := h
  obtain ⟨b, hb⟩ := k
  exact ⟨max a b, fun m hm => ⟨ha m (by omega), hb m (by omega)⟩⟩

theorem Evt.mono {p q : Nat → Prop} (h : Evt p) (k : ∀ m, p m → q m) : Evt q := by
  obtain ⟨a, ha⟩ := h
  exact ⟨a, fun m hm => k m (ha m hm)⟩

theorem Evt.of {p : Nat → Prop} (h : ∀ m, p m) : Evt p := ⟨0, fun m _ => h m⟩

/-- What a call comes to. -/
def callA (E : Env) (f : FuncId) (args : List V) (h : H) (v : V) (h' : H) : Prop := Evt fun m => callE E m f args h = some (v, h')

/-- What code comes to. -/
def wpA (E : Env) (c : C) (t : T) (h : H) (Q : X → T → H → Prop) : Prop := ∃ x t' h', Q x t' h' ∧ Evt fun m => runC E.inl (callE E m) m c t h = some (x, t', h')

/-- What a loop comes to. -/
def wpL (E : Env) (c : C) (t : T) (h : H) (Q : X → T → H → Prop) : Prop :=
  ∃ x t' h', Q x t' h' ∧ ∃ n, ∀ m k, n ≤ m → n ≤ k → loopE (fun t h => runC E.inl (callE E m) m c t h) k t h = some (x, t', h')

/-- What operations come to. -/
def wpR (E : Env) (ops : List Op) (t : T) (h : H) (Q : T → H → Prop) : Prop := ∃ t' h', Q t' h' ∧ Evt fun m => regE E.inl (callE E m) ops t h = some (t', h')

def wpRL (E : Env) (ops : List Op) (fs : List (List Nat × List Nat)) (t : T) (h : H) (Q : T → H → Prop) : Prop := ∃ t' h', Q t' h' ∧ Evt fun m => regLE E.inl (callE E m) ops fs t h = some (t', h')

theorem frz_int (h : H) (k : IntKind) (n : Int) : frz h 40 (.int k n) = some (.int k n, []) := by simp only [frz]
theorem frz_bool (h : H) (b : Bool) : frz h 40 (.bool b) = some (.bool b, []) := by simp only [frz]
theorem frz_str (h : H) (s : List UInt8) : frz h 40 (.str s) = some (.str s, []) := by simp only [frz]
theorem frz_nils (h : H) : frz h 40 .nils = some (.nils, []) := by simp only [frz]
theorem frz_isl (h : H) (cs : List V) (n : Nat) (ex : Option Nat) : frz h 40 (.isl cs n ex) = some (.isl cs n none, []) := by simp only [frz]
theorem frzs_nil (h : H) : frzs h [] = some ([], []) := rfl
theorem frzs_cons {h : H} {x y : V} {l ys : List V} {js is : List Nat} (h1 : frz h 40 x = some (y, js)) (h2 : frzs h l = some (ys, is)) : frzs h (x :: l) = some (y :: ys, js ++ is) := by
  unfold frzs frzL at h2 ⊢
  rw [List.foldr_cons, h2, h1]

section
variable {E : Env} {t : T} {h : H}

theorem wpA.mono {c : C} {Q Q' : X → T → H → Prop} (k : wpA E c t h Q) (hq : ∀ x t h, Q x t h → Q' x t h) : wpA E c t h Q' := by
  obtain ⟨x, t', h', q, e⟩ := k
  exact ⟨x, t', h', hq _ _ _ q, e⟩

theorem wpA_skip {Q : X → T → H → Prop} (k : Q .nrm t h) : wpA E .skip t h Q := ⟨_, _, _, k, .of fun m => rfl⟩
theorem wpA_ret {Q : X → T → H → Prop} (k : Q .ret t h) : wpA E .ret t h Q := ⟨_, _, _, k, .of fun m => rfl⟩
theorem wpA_exit {id : Nat} {Q : X → T → H → Prop} (k : Q (.exit id) t h) : wpA E (.exit id) t h Q := ⟨_, _, _, k, .of fun m => rfl⟩

theorem wpA_seq {a b : C} {Q : X → T → H → Prop} (k : wpA E a t h fun x t' h' => match x with | .nrm => wpA E b t' h' Q | x => Q x t' h') : wpA E (.seq a b) t h Q := by
  obtain ⟨x, t', h', q, e⟩ := k
  cases x with
  | nrm =>
    obtain ⟨x2, t2, h2, q2, e2⟩ := q
    exact ⟨x2, t2, h2, q2, (e.and e2).mono fun m ⟨a, b⟩ => by simp only [runC, a, b]⟩
  | exit id => exact ⟨_, t', h', q, e.mono fun m a => by simp only [runC, a]⟩
  | ret => exact ⟨_, t', h', q, e.mono fun m a => by simp only [runC, a]⟩

theorem wpA_true {c : A} {a b : C} {Q : X → T → H → Prop} (hc : ev t c = .bool true) (k : wpA E a t h Q) : wpA E (.cond c a b) t h Q := by
  obtain ⟨x, t', h', q, e⟩ := k
  exact ⟨x, t', h', q, e.mono fun m k => by simp only [runC, hc, k]⟩

theorem wpA_false {c : A} {a b : C} {Q : X → T → H → Prop} (hc : ev t c = .bool false) (k : wpA E b t h Q) : wpA E (.cond c a b) t h Q := by
  obtain ⟨x, t', h', q, e⟩ := k
  exact ⟨x, t', h', q, e.mono fun m k => by simp only [runC, hc, k]⟩

theorem wpA_cond {c : A} {a b : C} {q : Bool} {Q : X → T → H → Prop} (hc : ev t c = .bool q) (k1 : q = true → wpA E a t h Q) (k2 : q = false → wpA E b t h Q) : wpA E (.cond c a b) t h Q := by
  cases q with
  | true => exact wpA_true hc (k1 rfl)
  | false => exact wpA_false hc (k2 rfl)

theorem wpA_block {id : Nat} {c : C} {Q : X → T → H → Prop} (k : wpA E c t h fun x t' h' => match x with | .exit j => Q (if j = id then .nrm else .exit j) t' h' | x => Q x t' h') : wpA E (.block id c) t h Q := by
  obtain ⟨x, t', h', q, e⟩ := k
  cases x with
  | exit j => exact ⟨_, t', h', q, e.mono fun m a => by simp only [runC, a]⟩
  | nrm => exact ⟨_, t', h', q, e.mono fun m a => by simp only [runC, a]⟩
  | ret => exact ⟨_, t', h', q, e.mono fun m a => by simp only [runC, a]⟩

theorem wpA_loop {c : C} {Q : X → T → H → Prop} (k : wpL E c t h Q) : wpA E (.loop c) t h Q := by
  obtain ⟨x, t', h', q, n, e⟩ := k
  exact ⟨x, t', h', q, n, fun m hm => by simp only [runC]; exact e m m hm hm⟩

theorem wpL_step {c : C} {Q : X → T → H → Prop} (k : wpA E c t h fun x t' h' => match x with | .nrm => wpL E c t' h' Q | x => Q x t' h') : wpL E c t h Q := by
  obtain ⟨x, t', h', q, n, e⟩ := k
  cases x with
  | nrm =>
    obtain ⟨x2, t2, h2, q2, n2, e2⟩ := q
    refine ⟨x2, t2, h2, q2, max n (n2 + 1) + 1, fun m k hm hk => ?_⟩
    obtain ⟨k', rfl⟩ : ∃ j, k = j + 1 := ⟨k - 1, by omega⟩
    simp only [loopE, e m (by omega)]
    exact e2 m k' (by omega) (by omega)
  | exit id =>
    refine ⟨_, t', h', q, n + 1, fun m k hm hk => ?_⟩
    obtain ⟨k', rfl⟩ : ∃ j, k = j + 1 := ⟨k - 1, by omega⟩
    simp only [loopE, e m (by omega)]
  | ret =>
    refine ⟨_, t', h', q, n + 1, fun m k hm hk => ?_⟩
    obtain ⟨k', rfl⟩ : ∃ j, k = j + 1 := ⟨k - 1, by omega⟩
    simp only [loopE, e m (by omega)]

/-- A loop with an invariant and a measure. -/
theorem wpL_inv {c : C} {Q : X → T → H → Prop} (I : Nat → T → H → Prop) (step : ∀ n t h, I n t h → wpA E c t h fun x t' h' => match x with | .nrm => ∃ n', n' < n ∧ I n' t' h' | x => Q x t' h') : ∀ (n : Nat) (t : T) (h : H), I n t h → wpL E c t h Q := by
  intro n
  induction n using Nat.strongRecOn with
  | _ n ih =>
    intro t h hi
    refine wpL_step ((step n t h hi).mono fun x t' h' k => ?_)
    cases x with
    | nrm => obtain ⟨n', hn, hi'⟩ := k; exact ih n' hn t' h' hi'
    | exit id => exact k
    | ret => exact k

theorem wpA_reg {ops : List Op} {Q : X → T → H → Prop} (k : wpR E ops t h (Q .nrm)) : wpA E (.reg ops) t h Q := by
  obtain ⟨t', h', q, e⟩ := k
  exact ⟨.nrm, t', h', q, e.mono fun m a => by simp only [runC, a, Option.map_some]⟩

theorem wpA_regL {ops : List Op} {Q : X → T → H → Prop} (k : wpRL E ops [] t h (Q .nrm)) : wpA E (.regL ops) t h Q := by
  obtain ⟨t', h', q, e⟩ := k
  exact ⟨.nrm, t', h', q, e.mono fun m a => by simp only [runC, a, Option.map_some]⟩

theorem wpR_nil {Q : T → H → Prop} (k : Q t h) : wpR E [] t h Q := ⟨t, h, k, .of fun m => rfl⟩

theorem wpR_op {d : Option Nat} {o : O} {ls : List Nat} {ops : List Op} {v : V} {h1 : H} {Q : T → H → Prop} (ho : ∀ call, opE E.inl call o t h = some (v, h1)) (k : wpR E ops (put t d v) h1 Q) : wpR E (⟨d, none, o, ls⟩ :: ops) t h Q := by
  obtain ⟨t', h', q, e⟩ := k
  exact ⟨t', h', q, e.mono fun m a => by simp only [regE, ho, a]⟩

theorem wpR_opA {d : Option Nat} {o : O} {ls : List Nat} {ops : List Op} {v : V} {h1 : H} {Q : T → H → Prop} (ho : Evt fun m => opE E.inl (callE E m) o t h = some (v, h1)) (k : wpR E ops (put t d v) h1 Q) : wpR E (⟨d, none, o, ls⟩ :: ops) t h Q := by
  obtain ⟨t', h', q, e⟩ := k
  exact ⟨t', h', q, (e.and ho).mono fun m ⟨a, b⟩ => by simp only [regE, b, a]⟩

theorem wpR_on {d : Option Nat} {o : O} {ls : List Nat} {ops : List Op} {sl : Nat} {w : Bool} {v : V} {h1 : H} {Q : T → H → Prop} (hg : t.getD sl .und = .bool w) (ho : Evt fun m => opE E.inl (callE E m) o t h = some (v, h1)) (k : wpR E ops (put t d v) h1 Q) :
    wpR E (⟨d, some (sl, w), o, ls⟩ :: ops) t h Q := by
  obtain ⟨t', h', q, e⟩ := k
  exact ⟨t', h', q, (e.and ho).mono fun m ⟨a, b⟩ => by simp only [regE, hg, if_true, b, a]⟩

theorem wpR_off {d : Option Nat} {o : O} {ls : List Nat} {ops : List Op} {sl : Nat} {w b : Bool} {Q : T → H → Prop} (hg : t.getD sl .und = .bool b) (hb : b ≠ w) (k : wpR E ops (put t d .und) h Q) : wpR E (⟨d, some (sl, w), o, ls⟩ :: ops) t h Q := by
  obtain ⟨t', h', q, e⟩ := k
  exact ⟨t', h', q, e.mono fun m a => by simp only [regE, hg, if_neg hb, a]⟩

theorem wpR_und {d : Option Nat} {o : O} {ls : List Nat} {ops : List Op} {sl : Nat} {w : Bool} {Q : T → H → Prop} (hg : t.getD sl .und = .und) (k : wpR E ops (put t d .und) h Q) : wpR E (⟨d, some (sl, w), o, ls⟩ :: ops) t h Q := by
  obtain ⟨t', h', q, e⟩ := k
  exact ⟨t', h', q, e.mono fun m a => by simp only [regE, hg, a]⟩

theorem op_call {f : FuncId} {as : List A} {v : V} {h1 : H} (k : callA E f (as.map (ev t)) h v h1) : Evt fun m => opE E.inl (callE E m) (.call f as) t h = some (v, h1) := k.mono fun m a => by simpa only [opE] using a

/-- A call in memory of its own. -/
theorem callA_iso {f : FuncId} {fn : Fn} {args as : List V} {is js : List Nat} {v : V} (he : E.ext f = none) (hc : E.code f = some fn) (hi : E.inl f = false) (hf : frzs h args = some (as, is))
    (k : wpA E fn.body (as ++ List.replicate (fn.nt - as.length) .und) [] fun x t' h2 => (x = .nrm ∨ x = .ret) ∧ ∃ v', resE t' h2 fn.res = some v' ∧ frz h2 40 v' = some (v, js)) : callA E f args h v (mark h is) := by
  obtain ⟨x, t', h2, ⟨hx, v', h3, h4⟩, n, e⟩ := k
  refine ⟨n + 1, fun m hm => ?_⟩
  obtain ⟨m', rfl⟩ : ∃ j, m = j + 1 := ⟨m - 1, by omega⟩
  have e' := e m' (by omega)
  simp only [callE, he, hc, hi, Bool.false_eq_true, if_false, hf, bodyE, e']
  rcases hx with rfl | rfl <;> simp only [h3, Option.map_some, h4]

/-- A call in its caller's memory. -/
theorem callA_inl {f : FuncId} {fn : Fn} {args : List V} {v : V} {h' : H} (he : E.ext f = none) (hc : E.code f = some fn) (hi : E.inl f = true)
    (k : wpA E fn.body (args ++ List.replicate (fn.nt - args.length) .und) h fun x t' h2 => (x = .nrm ∨ x = .ret) ∧ h2 = h' ∧ resE t' h2 fn.res = some v) : callA E f args h v h' := by
  obtain ⟨x, t', h2, ⟨hx, rfl, h3⟩, n, e⟩ := k
  refine ⟨n + 1, fun m hm => ?_⟩
  obtain ⟨m', rfl⟩ : ∃ j, m = j + 1 := ⟨m - 1, by omega⟩
  have e' := e m' (by omega)
  simp only [callE, he, hc, hi, if_true, bodyE, e']
  rcases hx with rfl | rfl <;> simp only [h3, Option.map_some]
end
end Go.Am
