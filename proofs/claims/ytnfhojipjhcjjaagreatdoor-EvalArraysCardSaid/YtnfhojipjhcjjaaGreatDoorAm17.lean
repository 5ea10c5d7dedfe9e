/-
  A STEP OF THE MACHINE AND A STEP OF THE EVALUATOR: slots, guards, calls; every operation. Conditions: as each lemma names them.
-/
import Derived.Test.YtnfhojipjhcjjaaGreatDoorAm16
namespace Go.Am
set_option autoImplicit false
set_option linter.unusedVariables false
set_option linter.unusedSimpArgs false

/-- The slots of a frame hold what the evaluator's say. -/
structure Slots (s : St) (t : T) (a : Act) : Prop where
  n : t.length = a.tmps.size
  r : ∀ i, s.vr (t.getD i .und) (a.tmps.getD i undef)
  d : a.defers = []

theorem Slots.ext {s s' : St} {t : T} {a : Act} (h : Slots s t a) (hE : Ext s s') : Slots s' t a := ⟨h.n, fun i => hE.vr (h.r i), h.d⟩

theorem Slots.put {s : St} {t : T} {a : Act} (h : Slots s t a) {d : Option Nat} {v : V} {c : Value} (hv : s.vr v c) : Slots s (put t d v) (a.put d c) := by
  cases d with
  | none => exact h
  | some j =>
    refine ⟨by simp [Am.put, Act.put, h.n], fun i => ?_, by simpa [Act.put] using h.d⟩
    have hr := h.r i
    simp only [Am.put, Act.put, List.getD_eq_getElem?_getD, Array.getD_eq_getD_getElem?, List.getElem?_set, Array.getElem?_setIfInBounds] at hr ⊢
    by_cases hj : j = i
    · subst hj
      by_cases hlt : j < t.length
      · have : j < a.tmps.size := by rw [← h.n]; exact hlt
        simp only [if_true, hlt, this, Option.getD_some]; exact hv
      · have : ¬ j < a.tmps.size := by rw [← h.n]; exact hlt
        simp only [if_true, hlt, this, if_false, Option.getD_none]; exact vund
    · simp only [hj, if_false]; exact hr

/-- What the evaluator's calls are worth. -/
structure CallOK (P : Program) (gl : Nat → Option (List V)) (inl : FuncId → Bool) (call : CallF) : Prop where
  len : ∀ f args h v h', call f args h = some (v, h') → h.length ≤ h'.length
  mono : ∀ f args h v h', call f args h = some (v, h') → ∀ id, id < h.length → isMut h'[id]? → isMut h[id]?
  iso : ∀ f args h v h', inl f = false → call f args h = some (v, h') → ∃ as is, frzs h args = some (as, is) ∧ h' = mark h is
  fn : ∀ f args h v h', call f args h = some (v, h') → ∃ fn, P.funcs[f]? = some fn ∧ (fn.name == "runtime.NumGoroutine") = false ∧ fn.body.isSome = true
  isoOK : ∀ f args h v h' (argsV : Array Value) (s : St) as is, inl f = false → call f args h = some (v, h') → frzs h args = some (as, is) → Inv gl s → args.length = argsV.size →
    (∀ (i : Nat) (x : V) (y : Value), args[i]? = some x → argsV[i]? = some y → s.vr x y) → Pre s h h' (is, []) →
    Calls P f argsV s.w fun e w' => ∃ s' c, e = .returned c ∧ w' = s'.w ∧ PostT gl s h h' v (is, []) s' c
  inlOK : ∀ f args h v h' (argsV : Array Value) (s : St), inl f = true → call f args h = some (v, h') → Inv gl s → args.length = argsV.size →
    (∀ (i : Nat) (x : V) (y : Value), args[i]? = some x → argsV[i]? = some y → s.vr x y) → PreC s h h' →
    Calls P f argsV s.w fun e w' => ∃ s' c, e = .returned c ∧ w' = s'.w ∧ PostC gl s h h' s' ∧ s'.vr v c

section
variable {P : Program} {gl : Nat → Option (List V)} {inl : FuncId → Bool} {call : CallF} {s s' : St} {h h' : H} {t : T} {v : V} {o : O} {oper : Oper} {iso : Bool} {a : Act}

/-- Operands. -/
theorem hev_of (hI : Inv gl s) (hs : Slots s t a) (x : Operand) (q : A) (hq : opd gl x = some q) : s.vr (ev t q) (a.eval x) := by
  cases x with
  | tmp i => simp only [opd, Option.some.injEq] at hq; subst hq; exact hs.r i
  | const c =>
    simp only [opd, Option.map_eq_some_iff] at hq
    obtain ⟨u, h1, rfl⟩ := hq
    exact .cl _ _ (ofValue_rel c u h1)
  | global g =>
    simp only [opd, Option.map_eq_some_iff] at hq
    obtain ⟨cs, h1, rfl⟩ := hq
    exact .cl _ _ (hI.gls g cs h1)
  | func f =>
    simp only [opd, Option.some.injEq] at hq; subst hq
    exact .cl _ _ (.fn f [] _ rfl (fun i x y a => by simp at a))

theorem hev_all (hI : Inv gl s) (hs : Slots s t a) : Hev gl s t o a.eval := fun x q h _ => hev_of hI hs x q h

/-- Is an operation carried out? -/
theorem wanted_none {ops : Array Oper} (hg : guardOf ops.toList oper = some none) : Region.wanted oper (yielded ops a.tmps) = true := by
  unfold guardOf at hg
  split at hg
  · rename_i h0; simp [Region.wanted, h0]
  · split at hg <;> simp at hg

theorem wanted_some {ops : Array Oper} {sl : Nat} {want : Bool} (hs : Slots s t a) (hg : guardOf ops.toList oper = some (some (sl, want))) :
    (∀ b, t.getD sl .und = .bool b → Region.wanted oper (yielded ops a.tmps) = (b == want)) ∧ (t.getD sl .und = .und → Region.wanted oper (yielded ops a.tmps) = false) := by
  unfold guardOf at hg
  split at hg
  · simp at hg
  · rename_i j w h0
    split at hg
    · rename_i d hd
      simp only [Option.some.injEq, Prod.mk.injEq] at hg
      obtain ⟨rfl, rfl⟩ := hg
      have hd' : (ops[j]?).bind (·.dst) = some d := by rw [← Array.getElem?_toList]; exact hd
      have hr := hs.r d
      refine ⟨fun b hb => ?_, fun hb => ?_⟩
      · rw [hb] at hr
        have := vr_bool hr
        have hy : yielded ops a.tmps j = some b := by
          unfold yielded
          rw [hd']
          cases ht : a.tmps[d]? with
          | none => rw [Array.getD_eq_getD_getElem?, ht] at this; cases this
          | some u => rw [Array.getD_eq_getD_getElem?, ht] at this; simp at this; subst this; simp [ht]
        simp only [Region.wanted, h0, hy]
        cases b <;> cases w <;> rfl
      · rw [hb] at hr
        have := vr_und hr
        have hy : yielded ops a.tmps j = none := by
          unfold yielded
          rw [hd']
          cases ht : a.tmps[d]? with
          | none => simp [ht]
          | some u => rw [Array.getD_eq_getD_getElem?, ht] at this; simp at this; subst this; simp [ht]; rfl
        simp only [Region.wanted, h0, hy]
        cases w <;> rfl
    · simp at hg

/-- A call of a function that has a body. -/
theorem run_callFunc {f : FuncId} {fn : Func} {argsV : Array Value} {w : World} (hf : P.funcs[f]? = some fn) (hn : (fn.name == "runtime.NumGoroutine") = false) (hb : fn.body.isSome = true) :
    (callFunc f argsV).run P w = .ok (.enter f argsV) w := by
  have hb' : fn.body.isNone = false := by cases h : fn.body <;> simp_all
  simp only [callFunc, Sem.run_bind, run_program, Result.andThen_ok, hf, hn, Bool.false_eq_true, if_false, hb', Sem.run_pure]

/-- A call as it is compiled. -/
theorem compOp_call (hc' : o.isCall = true) (hc : compOp P gl iso oper = some o) : ∃ c, oper.op = .call c ∧
    ((∃ f as fn, c.callee = .value (.func f) ∧ o = .call f as ∧ opds gl c.args.toList = some as ∧ P.funcs[f]? = some fn ∧ fn.body.isSome = true ∧ (fn.name == "runtime.NumGoroutine") = false) ∨
     (∃ x xq as, c.callee = .value x ∧ o = .dyn iso xq as ∧ opd gl x = some xq ∧ opds gl c.args.toList = some as)) := by
  cases hop : oper.op with
  | call c =>
    refine ⟨c, rfl, ?_⟩
    cases hcal : c.callee with
    | value fv =>
      have dyn : (match opd gl fv, opds gl c.args.toList with
          | some x, some as => some (O.dyn iso x as)
          | _, _ => none) = some o → ∃ x xq as, Callee.value fv = .value x ∧ o = .dyn iso xq as ∧ opd gl x = some xq ∧ opds gl c.args.toList = some as := fun hc => by
        split at hc
        · rename_i x as h1 h2; injection hc with hc; exact ⟨fv, x, as, rfl, hc.symm, h1, h2⟩
        · cases hc
      cases fv with
      | func f =>
        simp only [compOp, hop, hcal] at hc
        split at hc
        · rename_i as fn h1 h2
          split at hc
          · rename_i h3
            injection hc with hc
            simp only [Bool.and_eq_true, Bool.not_eq_true'] at h3
            exact .inl ⟨f, as, fn, rfl, hc.symm, h1, h2, h3.1, h3.2⟩
          · cases hc
        · cases hc
      | _ => simp only [compOp, hop, hcal] at hc; exact .inr (dyn hc)
    | invoke r m => simp [compOp, hop, hcal] at hc
    | builtin b =>
      exfalso
      cases b <;> simp only [compOp, hop, hcal] at hc
      all_goals (repeat' split at hc)
      all_goals first
        | (cases hc; done)
        | (simp only [Option.some.injEq] at hc; subst hc; cases hc'; done)
        | (simp only [Option.map_eq_some_iff] at hc; obtain ⟨_, _, rfl⟩ := hc; cases hc'; done)
  | makeFunc fn first cap =>
    exfalso
    cases fn with
    | func f =>
      obtain ⟨l⟩ := first
      cases l with
      | nil => simp only [compOp, hop, Option.map_eq_some_iff] at hc; obtain ⟨_, _, rfl⟩ := hc; cases hc'
      | cons a l => simp [compOp, hop] at hc
    | _ => simp [compOp, hop] at hc
  | makeMap t r =>
    exfalso
    cases r with
    | none => simp only [compOp, hop, Option.some.injEq] at hc; subst hc; cases hc'
    | some r => simp [compOp, hop] at hc
  | _ =>
    exfalso
    simp only [compOp, hop] at hc
    try (repeat' split at hc)
    all_goals first
      | (cases hc; done)
      | (simp only [Option.some.injEq] at hc; subst hc; cases hc'; done)
      | (simp only [Option.map_eq_some_iff] at hc; obtain ⟨_, _, rfl⟩ := hc; cases hc'; done)
      | (simp only [Option.bind_eq_some_iff, Option.map_eq_some_iff] at hc; obtain ⟨_, _, _, _, rfl⟩ := hc; cases hc'; done)

/-- What a call's operands are, and the function that is called. -/
theorem call_run (hcall : CallOK P gl inl call) (hc' : o.isCall = true) (hI : Inv gl s) (hs : Slots s t a) (hc : compOp P gl iso oper = some o) (he : opE inl call o t h = some (v, h')) :
    ∃ f args argsV, call f args h = some (v, h') ∧ (execOp a.eval oper).run P s.w = .ok (.enter f argsV) s.w ∧ args.length = argsV.size ∧ (∀ (i : Nat) (x : V) (y : Value), args[i]? = some x → argsV[i]? = some y → s.vr x y) ∧
      (told inl o = true → inl f = false ∧ ∀ as is, frzs h args = some (as, is) → fpE o t h = (is, []) ∧ tch inl o = .reads) := by
  obtain ⟨c, hop, ⟨f, as, fn, hcal, rfl, hq, hf, hb, hn⟩ | ⟨x, xq, as, hcal, rfl, hx, hq⟩⟩ := compOp_call hc' hc
  · obtain ⟨h1, h2⟩ := opds_ok (t := t) (ρ := a.eval) hq (fun x q e1 _ => hev_of hI hs x q e1)
    simp only [opE] at he
    refine ⟨f, as.map (ev t), c.args.map a.eval, he, ?_, by simp [h1], fun i x y e1 e2 => h2 i x y e1 (by simpa using e2), fun htold => ?_⟩
    · have hd : (resolve a.eval c oper.type).run P s.w = .ok { target := .fn (.func f) #[], args := c.args.map a.eval } s.w := by
        simp [resolve, hcal, Act.eval, Deferred.ofValue]
      have := run_callFunc (P := P) (w := s.w) (argsV := c.args.map a.eval) hf hn hb
      simp only [execOp, hop, Sem.run_bind, hd, Result.andThen_ok, invoke, Array.append_empty, this]
    · simp only [told, Bool.not_eq_true'] at htold
      exact ⟨htold, fun as' is hfr => ⟨by simp only [fpE, hfr], by simp [tch, htold]⟩⟩
  · simp only [opE] at he
    have hxv := hev_of hI hs _ xq hx
    split at he
    · rename_i f cap hev
      rw [hev] at hxv
      obtain ⟨arr, e1, hn, hr⟩ := vr_fn hxv
      split at he
      · cases he
      · rename_i hii
        obtain ⟨h1, h2⟩ := opds_ok (t := t) (ρ := a.eval) hq (fun x q e1 _ => hev_of hI hs x q e1)
        obtain ⟨fn, hf, hnm, hb⟩ := hcall.fn f _ h v h' he
        refine ⟨f, as.map (ev t) ++ cap, c.args.map a.eval ++ arr, he, ?_, by simp [h1, hn], fun i x y e1 e2 => ?_, fun htold => ?_⟩
        · have hd : (resolve a.eval c oper.type).run P s.w = .ok { target := .fn (.func f) arr, args := c.args.map a.eval } s.w := by
            simp [resolve, hcal, e1, Deferred.ofValue]
          have := run_callFunc (P := P) (w := s.w) (argsV := c.args.map a.eval ++ arr) hf hnm hb
          simp only [execOp, hop, Sem.run_bind, hd, Result.andThen_ok, invoke, this]
        · rw [List.getElem?_append] at e1
          rw [Array.getElem?_append] at e2
          have hl : (as.map (ev t)).length = (c.args.map a.eval).size := by simp [h1]
          rw [hl] at e1
          split at e2
          · rename_i hlt; rw [if_pos hlt] at e1; exact h2 i x y e1 (by simpa using e2)
          · rename_i hlt; rw [if_neg hlt] at e1; exact hr _ x y e1 e2
        · simp only [told] at htold
          subst htold
          simp only [Bool.true_and, Bool.not_eq_true] at hii
          exact ⟨hii, fun as' is hfr => ⟨by simp only [fpE, hev, hfr], by simp [tch]⟩⟩
    · cases he

theorem frz_lt : ∀ (d : Nat) (x y : V) (is : List Nat), frz h d x = some (y, is) → ∀ id ∈ is, id < h.length := by
  intro d
  induction d with
  | zero => intro x y is hf; simp [frz] at hf
  | succ d ih =>
    intro x y is hf id hid
    have cells : ∀ (l ys : List V) (js : List Nat), frzL (frz h d) l = some (ys, js) → ∀ j ∈ js, j < h.length := fun l ys js hl j hj => by
      obtain ⟨_, _, k3⟩ := frzL_ok l ys js hl
      obtain ⟨x, y', js', _, e2, e3⟩ := k3 j hj
      exact ih _ _ _ e2 j e3
    cases x with
    | agg cs => simp only [frz, Option.map_eq_some_iff, Prod.mk.injEq] at hf; obtain ⟨⟨ys, js⟩, hl, rfl, rfl⟩ := hf; exact cells _ _ _ hl _ hid
    | tup cs => simp only [frz, Option.map_eq_some_iff, Prod.mk.injEq] at hf; obtain ⟨⟨ys, js⟩, hl, rfl, rfl⟩ := hf; exact cells _ _ _ hl _ hid
    | fn f cs => simp only [frz, Option.map_eq_some_iff, Prod.mk.injEq] at hf; obtain ⟨⟨ys, js⟩, hl, rfl, rfl⟩ := hf; exact cells _ _ _ hl _ hid
    | own i off =>
      simp only [frz] at hf
      split at hf
      · rename_i hh
        simp only [Option.map_eq_some_iff, Prod.mk.injEq] at hf; obtain ⟨⟨ys, js⟩, hl, rfl, rfl⟩ := hf
        rcases List.mem_cons.1 hid with rfl | hid
        · exact lt_some hh
        · exact cells _ _ _ hl _ hid
      · cases hf
    | osl i off len sz lo ex =>
      simp only [frz] at hf
      split at hf
      · rename_i hh
        split at hf
        · simp only [Option.map_eq_some_iff, Prod.mk.injEq] at hf; obtain ⟨⟨ys, js⟩, hl, rfl, rfl⟩ := hf
          rcases List.mem_cons.1 hid with rfl | hid
          · exact lt_some hh
          · exact cells _ _ _ hl _ hid
        · cases hf
      · cases hf
    | omap i =>
      simp only [frz] at hf
      split at hf
      · rename_i hh
        split at hf
        · rename_i ys js zs js' hl1 hl2
          simp only [Option.some.injEq, Prod.mk.injEq] at hf
          obtain ⟨rfl, rfl⟩ := hf
          simp only [List.cons_append, List.mem_cons, List.mem_append] at hid
          rcases hid with rfl | hid | hid
          · exact lt_some hh
          · exact cells _ _ _ hl1 _ hid
          · exact cells _ _ _ hl2 _ hid
        · cases hf
      · cases hf
    | _ => simp only [frz, Option.some.injEq, Prod.mk.injEq] at hf; obtain ⟨_, rfl⟩ := hf; cases hid

theorem frzs_lt {l ys : List V} {is : List Nat} (hf : frzs h l = some (ys, is)) : ∀ id ∈ is, id < h.length := fun id hid => by
  obtain ⟨_, _, k3⟩ := frzL_ok l ys is hf
  obtain ⟨x, y', js', _, e2, e3⟩ := k3 id hid
  exact frz_lt _ _ _ _ e2 id e3

theorem foot_mark {is : List Nat} {tc : Tch} (hlt : ∀ id ∈ is, id < h.length) (htc : tc ≠ .no) : Foot h (mark h is) (is, []) tc :=
  ⟨by rw [mark_len]; exact Nat.le_refl _, fun id a b => by
    rw [mark_get]
    split
    · rename_i hi; exact .inr ⟨hi, rfl⟩
    · exact .inl rfl, fun id a => (by cases a), fun id a => a.elim (hlt id) (fun k => (by cases k)), fun _ => htc, fun k => absurd rfl k⟩

/-- What an operation touches, where it can be told. -/
theorem foot_told (hcall : CallOK P gl inl call) (ht : told inl o = true) (he : opE inl call o t h = some (v, h')) : Foot h h' (fpE o t h) (tch inl o) := by
  cases hnc : o.isCall with
  | false => exact (foot_op hnc he).foot
  | true =>
    cases o with
    | call f as =>
      simp only [told, Bool.not_eq_true'] at ht
      simp only [opE] at he
      obtain ⟨as', is, hf, rfl⟩ := hcall.iso _ _ _ _ _ ht he
      have : fpE (.call f as) t h = (is, []) := by simp only [fpE, hf]
      rw [this]
      exact foot_mark (frzs_lt hf) (by simp [tch, ht])
    | dyn i x as =>
      simp only [told] at ht
      subst ht
      simp only [opE] at he
      split at he
      · rename_i f cap hev
        split at he
        · cases he
        · rename_i hii
          simp only [Bool.true_and, Bool.not_eq_true] at hii
          obtain ⟨as', is, hf, rfl⟩ := hcall.iso _ _ _ _ _ hii he
          have : fpE (.dyn true x as) t h = (is, []) := by simp only [fpE, hev, hf]
          rw [this]
          exact foot_mark (frzs_lt hf) (by simp [tch])
      · cases he
    | _ => cases hnc

theorem Oper.wp_of_run {next : Act → World → Prop} {Q : Exit → Act → World → Prop} {nx : Next} {c : Value} {w w' : World} (hr : (execOp a.eval oper).run P w = .ok nx w') (hnx : nx = .value c ∨ (nx = .skip ∧ c = undef)) (hn : next (a.put oper.dst c) w') :
    oper.wp P a w next Q := by
  unfold Oper.wp
  rw [hr]
  rcases hnx with rfl | ⟨rfl, rfl⟩
  · exact hn
  · exact hn

/-- A step whose footprint can be told. -/
theorem step_told (hcall : CallOK P gl inl call) (ht : told inl o = true) (hf : o.args.all A.fine = true) (hI : Inv gl s) (hs : Slots s t a) (hc : compOp P gl iso oper = some o) (he : opE inl call o t h = some (v, h'))
    (hp : Pre s h h' (fpE o t h)) {next : Act → World → Prop} {Q : Exit → Act → World → Prop} (hn : ∀ s' c, PostT gl s h h' v (fpE o t h) s' c → next (a.put oper.dst c) s'.w) : oper.wp P a s.w next Q := by
  cases hnc : o.isCall with
  | false =>
    obtain ⟨s', c, nx, h1, h2, h3⟩ := post_op (foot_op (inl := inl) (call := call) hnc he) hp (fun id hid => acc_op hnc hI (fun i => ⟨_, hs.r i⟩) hf hid) (op_ok hnc hI (hev_all hI hs) hc he hp)
    exact Oper.wp_of_run h1 h2 (hn s' c h3)
  | true =>
    obtain ⟨f, args, argsV, h1, h2, h3, h4, h5⟩ := call_run hcall hnc hI hs hc he
    obtain ⟨hni, hfp⟩ := h5 ht
    obtain ⟨as, is, hfz, hm⟩ := hcall.iso _ _ _ _ _ hni h1
    obtain ⟨e1, e2⟩ := hfp as is hfz
    rw [e1] at hp hn
    unfold Oper.wp
    rw [h2, Oper.upon_enter]
    exact Calls.mono (hcall.isoOK f args h v h' argsV s as is hni h1 hfz hI h3 h4 hp) fun e w' ⟨s', c, ee, ew, hpost⟩ => by
      subst ee ew; exact hn s' c hpost

/-- A step in the text's order. -/
theorem step_seq (hcall : CallOK P gl inl call) (hf : o.args.all A.fine = true) (hI : Inv gl s) (hs : Slots s t a) (hc : compOp P gl iso oper = some o) (he : opE inl call o t h = some (v, h'))
    (hp : PreC s h h') {next : Act → World → Prop} {Q : Exit → Act → World → Prop} (hn : ∀ s' c, PostC gl s h h' s' → s'.vr v c → next (a.put oper.dst c) s'.w) : oper.wp P a s.w next Q := by
  cases ht : told inl o with
  | true =>
    have hfo := foot_told hcall ht he
    exact step_told hcall ht hf hI hs hc he (hp.pre hfo) fun s' c hpost => hn s' c (hpost.postC hp hfo) hpost.vr
  | false =>
    have hnc : o.isCall = true := by cases o <;> simp [told] at ht <;> rfl
    obtain ⟨f, args, argsV, h1, h2, h3, h4, _⟩ := call_run hcall hnc hI hs hc he
    unfold Oper.wp
    rw [h2, Oper.upon_enter]
    cases hi : inl f with
    | true =>
      exact Calls.mono (hcall.inlOK f args h v h' argsV s hi h1 hI h3 h4 hp) fun e w' ⟨s', c, ee, ew, hpost, hv⟩ => by
        subst ee ew; exact hn s' c hpost hv
    | false =>
      obtain ⟨as, is, hfz, hm⟩ := hcall.iso _ _ _ _ _ hi h1
      have hfo : Foot h h' (is, []) .reads := by rw [hm]; exact foot_mark (frzs_lt hfz) (by simp)
      exact Calls.mono (hcall.isoOK f args h v h' argsV s as is hi h1 hfz hI h3 h4 (hp.pre hfo)) fun e w' ⟨s', c, ee, ew, hpost⟩ => by
        subst ee ew; exact hn s' c (hpost.postC hp hfo) hpost.vr

theorem opE_len (hcall : CallOK P gl inl call) (he : opE inl call o t h = some (v, h')) : h.length ≤ h'.length := by
  cases ht : told inl o with
  | true => exact (foot_told hcall ht he).len
  | false =>
    cases o with
    | call f as => exact hcall.len _ _ _ _ _ (by simpa only [opE] using he)
    | dyn i x as =>
      simp only [opE] at he
      split at he
      · split at he
        · cases he
        · exact hcall.len _ _ _ _ _ he
      · cases he
    | _ => simp [told] at ht

theorem opE_mono (hcall : CallOK P gl inl call) (he : opE inl call o t h = some (v, h')) {id : Nat} (hid : id < h.length) (hm : isMut h'[id]?) : isMut h[id]? := by
  cases ht : told inl o with
  | true =>
    have hfo := foot_told hcall ht he
    by_cases hw : id ∈ (fpE o t h).2
    · exact hfo.wmut id hw
    · rcases hfo.keep id hid hw with e | ⟨_, e⟩
      · rw [← e]; exact hm
      · rw [e] at hm; exact absurd hm (not_mut_frozen _)
  | false =>
    cases o with
    | call f as => exact hcall.mono _ _ _ _ _ (by simpa only [opE] using he) id hid hm
    | dyn i x as =>
      simp only [opE] at he
      split at he
      · split at he
        · cases he
        · exact hcall.mono _ _ _ _ _ he id hid hm
      · cases he
    | _ => simp [told] at ht

/-- A region of operations in the text's order. -/
theorem regE_len (hcall : CallOK P gl inl call) : ∀ (l : List Op) (t t' : T) (h h' : H), regE inl call l t h = some (t', h') → h.length ≤ h'.length
  | [], t, t', h, h', he => by simp only [regE, Option.some.injEq, Prod.mk.injEq] at he; rw [he.2]; exact Nat.le_refl _
  | o :: l, t, t', h, h', he => by
    simp only [regE] at he
    have go : ∀ {x : Option (V × H)}, x = opE inl call o.op t h → (match x with | some (v, h1) => regE inl call l (put t o.dst v) h1 | none => none) = some (t', h') → h.length ≤ h'.length := fun {x} hx he => by
      cases x with
      | none => cases he
      | some p => obtain ⟨v, h1⟩ := p; exact Nat.le_trans (opE_len hcall hx.symm) (regE_len hcall l _ _ _ _ he)
    split at he
    · exact go rfl he
    · split at he
      · split at he
        · exact go rfl he
        · exact regE_len hcall l _ _ _ _ he
      · exact regE_len hcall l _ _ _ _ he
      · cases he

theorem reg_ok (hcall : CallOK P gl inl call) {ops : Array Oper} {Q : Exit → Act → World → Prop} : ∀ (l : List Op) (os : List Oper) (k : Nat) (t t' : T) (h h' : H) (s : St) (a : Act), regE inl call l t h = some (t', h') → l.length = os.length → (∀ i, os[i]? = ops[k + i]?) →
    (∀ (i : Nat) (q : Op) (oper : Oper), l[i]? = some q → os[i]? = some oper → compOp P gl iso oper = some q.op ∧ guardOf ops.toList oper = some q.g ∧ oper.dst = q.dst ∧ q.op.args.all A.fine = true) →
    Inv gl s → Slots s t a → PreC s h h' → (∀ s' a', PostC gl s h h' s' → Slots s' t' a' → Q .normal a' s'.w) → wpOps P ops Q (List.range' k l.length) a s.w
  | [], os, k, t, t', h, h', s, a, he, hl, ho, hc, hI, hs, hp, hq => by
    simp only [regE, Option.some.injEq, Prod.mk.injEq] at he
    obtain ⟨rfl, rfl⟩ := he
    exact hq s a (PostC.refl hI hp) hs
  | o :: l, [], k, t, t', h, h', s, a, he, hl, ho, hc, hI, hs, hp, hq => by simp at hl
  | o :: l, oper :: os, k, t, t', h, h', s, a, he, hl, ho, hc, hI, hs, hp, hq => by
    have h0 : ops[k]? = some oper := by have := ho 0; simpa using this.symm
    obtain ⟨c1, c2, c3, c4⟩ := hc 0 o oper rfl rfl
    have rest : ∀ (t1 : T) (h1 : H) (s1 : St) (a1 : Act), regE inl call l t1 h1 = some (t', h') → Inv gl s1 → Slots s1 t1 a1 → PreC s1 h1 h' → (∀ s' a', PostC gl s1 h1 h' s' → Slots s' t' a' → Q .normal a' s'.w) → wpOps P ops Q (List.range' (k + 1) l.length) a1 s1.w :=
      fun t1 h1 s1 a1 e1 e2 e3 e4 e5 => reg_ok hcall l os (k + 1) t1 t' h1 h' s1 a1 e1 (by simpa using hl) (fun i => by have := ho (i + 1); rw [show k + (i + 1) = k + 1 + i from by omega] at this; simpa using this) (fun i q oper' a b => hc (i + 1) q oper' (by simpa using a) (by simpa using b)) e2 e3 e4 e5
    rw [List.length_cons, List.range'_succ, wpOps_cons]
    unfold wpOp
    simp only [h0]
    simp only [regE] at he
    have go : (match opE inl call o.op t h with | some (v, h1) => regE inl call l (put t o.dst v) h1 | none => none) = some (t', h') → oper.wp P a s.w (wpOps P ops Q (List.range' (k + 1) l.length)) Q := fun he => by
      split at he
      · rename_i v h1 hop
        have hlen := regE_len hcall _ _ _ _ _ he
        refine step_seq hcall c4 hI hs c1 hop (hp.first hlen) fun s1 c hpost hv => ?_
        rw [c3]
        exact rest _ _ s1 _ he hpost.inv ((hs.ext hpost.ext).put hv) (hp.next hpost) fun s' a' hp' hs' => hq s' a' (hpost.trans hp') hs'
      · cases he
    split at he
    · rename_i hg
      rw [hg] at c2
      rw [wanted_none c2, if_pos rfl]
      exact .inl (go he)
    · rename_i sl want hg
      rw [hg] at c2
      obtain ⟨w1, w2⟩ := wanted_some hs c2
      split at he
      · rename_i b hb
        rw [w1 b hb]
        split at he
        · rename_i hbw
          subst hbw
          simp only [BEq.rfl, if_true]
          exact .inl (go he)
        · rename_i hbw
          have : (b == want) = false := by cases b <;> cases want <;> simp_all
          simp only [this, Bool.false_eq_true, if_false]
          rw [c3]
          exact rest _ _ s _ he hI (hs.put vund) hp hq
      · rename_i hb
        rw [w2 hb]
        simp only [Bool.false_eq_true, if_false]
        rw [c3]
        exact rest _ _ s _ he hI (hs.put vund) hp hq
      · cases he
end
end Go.Am
