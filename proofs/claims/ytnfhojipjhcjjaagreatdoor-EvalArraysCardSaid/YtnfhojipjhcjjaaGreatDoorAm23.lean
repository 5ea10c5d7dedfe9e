/-
  CALLS: what the evaluator says of a call, the machine's call does. Conditions: as each lemma names them.
-/
import Derived.Test.YtnfhojipjhcjjaaGreatDoorAm22
namespace Go.Am
set_option autoImplicit false
set_option linter.unusedVariables false
set_option linter.unusedSimpArgs false

section
variable {P : Program} {gl : Nat → Option (List V)} {inl : FuncId → Bool} {call : CallF}

theorem loopE_mono {f : T → H → Option (X × T × H)} (hl : ∀ t h x t' h', f t h = some (x, t', h') → h.length ≤ h'.length) (hf : ∀ t h x t' h', f t h = some (x, t', h') → ∀ id, id < h.length → isMut h'[id]? → isMut h[id]?) :
    ∀ (n : Nat) (t : T) (h : H) (x : X) (t' : T) (h' : H), loopE f n t h = some (x, t', h') → ∀ id, id < h.length → isMut h'[id]? → isMut h[id]?
  | 0, t, h, x, t', h', he => by simp [loopE] at he
  | n + 1, t, h, x, t', h', he => by
    intro id hid hm
    simp only [loopE] at he
    split at he
    · rename_i t1 h1 e; exact hf _ _ _ _ _ e id hid (loopE_mono hl hf n _ _ _ _ _ he id (Nat.lt_of_lt_of_le hid (hl _ _ _ _ _ e)) hm)
    · exact hf _ _ _ _ _ he id hid hm

theorem regE_mono (hcall : CallOK P gl inl call) : ∀ (l : List Op) (t t' : T) (h h' : H), regE inl call l t h = some (t', h') → ∀ id, id < h.length → isMut h'[id]? → isMut h[id]?
  | [], t, t', h, h', he => by simp only [regE, Option.some.injEq, Prod.mk.injEq] at he; rw [he.2]; exact fun _ _ k => k
  | o :: l, t, t', h, h', he => by
    intro id hid hm
    simp only [regE] at he
    have go : ∀ {x : Option (V × H)}, x = opE inl call o.op t h → (match x with | some (v, h1) => regE inl call l (put t o.dst v) h1 | none => none) = some (t', h') → isMut h[id]? := fun {x} hx he => by
      cases x with
      | none => cases he
      | some p => obtain ⟨v, h1⟩ := p; exact opE_mono hcall hx.symm hid (regE_mono hcall l _ _ _ _ he id (Nat.lt_of_lt_of_le hid (opE_len hcall hx.symm)) hm)
    split at he
    · exact go rfl he
    · split at he
      · split at he
        · exact go rfl he
        · exact regE_mono hcall l _ _ _ _ he id hid hm
      · exact regE_mono hcall l _ _ _ _ he id hid hm
      · cases he

theorem regLE_mono (hcall : CallOK P gl inl call) : ∀ (l : List Op) (fs : List (List Nat × List Nat)) (t t' : T) (h h' : H), regLE inl call l fs t h = some (t', h') → ∀ id, id < h.length → isMut h'[id]? → isMut h[id]?
  | [], fs, t, t', h, h', he => by simp only [regLE, Option.some.injEq, Prod.mk.injEq] at he; rw [he.2]; exact fun _ _ k => k
  | o :: l, fs, t, t', h, h', he => by
    intro id hid hm
    simp only [regLE] at he
    have go : ∀ {x : Option (V × H)}, x = opE inl call o.op t h → (if (o.ls.all fun i => apart (fs.getD i ([], [])) (fpE o.op t h)) = true then (match x with | some (v, h1) => regLE inl call l (fs ++ [fpE o.op t h]) (put t o.dst v) h1 | none => none) else none) = some (t', h') → isMut h[id]? := fun {x} hx he => by
      split at he
      · cases x with
        | none => cases he
        | some p => obtain ⟨v, h1⟩ := p; exact opE_mono hcall hx.symm hid (regLE_mono hcall l _ _ _ _ _ he id (Nat.lt_of_lt_of_le hid (opE_len hcall hx.symm)) hm)
      · cases he
    split at he
    · exact go rfl he
    · split at he
      · split at he
        · exact go rfl he
        · exact regLE_mono hcall l _ _ _ _ _ he id hid hm
      · exact regLE_mono hcall l _ _ _ _ _ he id hid hm
      · cases he

theorem runC_mono (hcall : CallOK P gl inl call) (n : Nat) : ∀ (c : C) (t : T) (h : H) (x : X) (t' : T) (h' : H), runC inl call n c t h = some (x, t', h') → ∀ id, id < h.length → isMut h'[id]? → isMut h[id]? := by
  intro c
  induction c with
  | skip => intro t h x t' h' he; simp only [runC, Option.some.injEq, Prod.mk.injEq] at he; rw [he.2.2]; exact fun _ _ k => k
  | exit id => intro t h x t' h' he; simp only [runC, Option.some.injEq, Prod.mk.injEq] at he; rw [he.2.2]; exact fun _ _ k => k
  | ret => intro t h x t' h' he; simp only [runC, Option.some.injEq, Prod.mk.injEq] at he; rw [he.2.2]; exact fun _ _ k => k
  | reg ops =>
    intro t h x t' h' he
    simp only [runC, Option.map_eq_some_iff, Prod.mk.injEq] at he
    obtain ⟨⟨t1, h1⟩, e, _, rfl, rfl⟩ := he
    exact regE_mono hcall _ _ _ _ _ e
  | regL ops =>
    intro t h x t' h' he
    simp only [runC, Option.map_eq_some_iff, Prod.mk.injEq] at he
    obtain ⟨⟨t1, h1⟩, e, _, rfl, rfl⟩ := he
    exact regLE_mono hcall _ _ _ _ _ _ e
  | seq a b iha ihb =>
    intro t h x t' h' he
    simp only [runC] at he
    split at he
    · rename_i t1 h1 e
      intro id hid hm
      exact iha _ _ _ _ _ e id hid (ihb _ _ _ _ _ he id (Nat.lt_of_lt_of_le hid (runC_len hcall n _ _ _ _ _ _ e)) hm)
    · exact iha _ _ _ _ _ he
  | cond c a b iha ihb =>
    intro t h x t' h' he
    simp only [runC] at he
    split at he
    · exact iha _ _ _ _ _ he
    · exact ihb _ _ _ _ _ he
    · cases he
  | block id c ih =>
    intro t h x t' h' he
    simp only [runC] at he
    split at he
    · rename_i j t1 h1 e
      simp only [Option.some.injEq, Prod.mk.injEq] at he
      obtain ⟨_, rfl, rfl⟩ := he
      exact ih _ _ _ _ _ e
    · exact ih _ _ _ _ _ he
  | loop c ih =>
    intro t h x t' h' he
    simp only [runC] at he
    exact loopE_mono (fun t h x t' h' e => runC_len hcall n c t h x t' h' e) (fun t h x t' h' e => ih t h x t' h' e) n _ _ _ _ _ he

/-- What a body's run comes to. -/
theorem bodyE_inv {n : Nat} {fn : Fn} {args : List V} {h h' : H} {v : V} (he : bodyE inl call n fn args h = some (v, h')) : ∃ x t', runC inl call n fn.body (args ++ List.replicate (fn.nt - args.length) .und) h = some (x, t', h') ∧ (x = .nrm ∨ x = .ret) ∧ resE t' h' fn.res = some v := by
  unfold bodyE at he
  split at he
  · rename_i t' h1 e
    simp only [Option.map_eq_some_iff, Prod.mk.injEq] at he
    obtain ⟨u, h2, rfl, rfl⟩ := he
    exact ⟨_, _, e, .inl rfl, h2⟩
  · rename_i t' h1 e
    simp only [Option.map_eq_some_iff, Prod.mk.injEq] at he
    obtain ⟨u, h2, rfl, rfl⟩ := he
    exact ⟨_, _, e, .inr rfl, h2⟩
  · cases he

/-- One result. -/
def resOne (t : T) (h : H) : R → Option V
  | .tmp i => some (t.getD i .und)
  | .cell i n => (rdc h (t.getD i .und)).bind (fst n)

def resSem (tmps : Array Value) (rv : ResultVar) : Sem Value :=
  match rv with
  | .tmp t => pure (tmps.getD t undef)
  | .cell x ty => do loadVar ty (← asAddr (tmps.getD x undef))

theorem results_eq (fn : Func) (tmps : Array Value) : results fn tmps = (do let vs ← fn.results.mapM (resSem tmps); pure (if h : vs.size = 1 then vs[0] else .tuple vs)) := by
  unfold results
  congr 1

theorem res_one {s : St} {t : T} {a : Act} {h : H} {rv : ResultVar} {r : R} {v : V} (hI : Inv gl s) (hs : Slots s t a) (hag : ∀ id, id < h.length → s.G id ≠ none → AgrAt s.G h id) (hc : compRes P rv = some r) (hv : resOne t h r = some v) :
    ∃ c, (resSem a.tmps rv).run P s.w = .ok c s.w ∧ s.vr v c := by
  cases rv with
  | tmp i =>
    simp only [compRes, Option.some.injEq] at hc; subst hc
    simp only [resOne, Option.some.injEq] at hv; subst hv
    exact ⟨_, rfl, hs.r i⟩
  | cell i ty =>
    simp only [compRes, Option.map_eq_some_iff] at hc
    obtain ⟨n, hw, rfl⟩ := hc
    simp only [resOne, Option.bind_eq_some_iff] at hv
    obtain ⟨cs, h1, h2⟩ := hv
    have hr := hs.r i
    obtain ⟨d, h3, h4⟩ := load_ok (P := P) (h := h) hI hr (fun id off e hG => by
      by_cases hlt : id < h.length
      · exact (hag id hlt hG).1
      · exfalso
        rw [e] at h1
        simp only [rdc] at h1
        rw [List.getElem?_eq_none (by omega)] at h1
        cases h1) h1 hw h2
    obtain ⟨ad, e⟩ := ptr_of hr h1
    refine ⟨d, ?_, h4⟩
    rw [e] at h3
    simp only [resSem, e, asAddr, Sem.run_bind, Sem.run_pure, Result.andThen_ok]
    simpa only [Instr.loadAt, Instr.sureAddr, Sem.run_bind, Sem.run_pure, Result.andThen_ok] using h3

theorem res_list {s : St} {t : T} {a : Act} {h : H} (hI : Inv gl s) (hs : Slots s t a) (hag : ∀ id, id < h.length → s.G id ≠ none → AgrAt s.G h id) : ∀ (rvs : List ResultVar) (rs : List R) (vs : List V), rvs.mapM (compRes P) = some rs →
    (rs.foldr (fun r acc => match resOne t h r, acc with | some v, some vs => some (v :: vs) | _, _ => none) (some [])) = some vs →
    ∃ cs : List Value, (rvs.mapM (resSem a.tmps)).run P s.w = .ok cs s.w ∧ vs.length = cs.length ∧ rs.length = vs.length ∧
      ∀ (i : Nat) (x : V) (y : Value), vs[i]? = some x → cs[i]? = some y → s.vr x y
  | [], rs, vs, h1, h2 => by
    simp at h1; subst h1
    simp at h2; subst h2
    exact ⟨[], by simp, rfl, rfl, fun i x y a => by simp at a⟩
  | rv :: rvs, rs, vs, h1, h2 => by
    simp only [List.mapM_cons, Option.bind_eq_bind, Option.bind_eq_some_iff] at h1
    obtain ⟨r, h3, rs', h4, h5⟩ := h1
    injection h5 with h5; subst h5
    simp only [List.foldr_cons] at h2
    split at h2
    · rename_i v vs' e1 e2
      injection h2 with h2; subst h2
      obtain ⟨c, k1, k2⟩ := res_one (P := P) hI hs hag h3 e1
      obtain ⟨cs, m1, m2, m3, m4⟩ := res_list hI hs hag rvs rs' vs' h4 e2
      refine ⟨c :: cs, ?_, by simp [m2], by simp [m3], fun i x y a b => ?_⟩
      · simp only [List.mapM_cons, Sem.run_bind, k1, Result.andThen_ok, m1, Sem.run_pure]
      · cases i with
        | zero => simp at a b; subst a b; exact k2
        | succ i => exact m4 i x y (by simpa using a) (by simpa using b)
    · cases h2

/-- A body's results. -/
theorem res_ok {s : St} {t : T} {a : Act} {h : H} {fn : Func} {rs : List R} {v : V} (hI : Inv gl s) (hs : Slots s t a) (hag : ∀ id, id < h.length → s.G id ≠ none → AgrAt s.G h id) (hc : fn.results.toList.mapM (compRes P) = some rs) (hv : resE t h rs = some v) :
    ∃ c, (results fn a.tmps).run P s.w = .ok c s.w ∧ s.vr v c := by
  have hrun : ∀ cs : List Value, (fn.results.toList.mapM (resSem a.tmps)).run P s.w = .ok cs s.w →
      (results fn a.tmps).run P s.w = .ok (if h : cs.toArray.size = 1 then cs.toArray[0] else .tuple cs.toArray) s.w := fun cs hcs => by
    rw [results_eq, Sem.run_bind]
    have : (fn.results.mapM (resSem a.tmps)).run P s.w = .ok cs.toArray s.w := by
      cases hfr : fn.results with
      | mk l =>
        rw [hfr] at hcs
        rw [List.mapM_toArray]
        show ((l.mapM (resSem a.tmps)) >>= fun x => pure x.toArray : Sem (Array Value)).run P s.w = _
        rw [Sem.run_bind, hcs]; rfl
    rw [this]
    rfl
  match rs, hv with
  | [r], hv =>
    have hone : resOne t h r = some v := by cases r <;> exact hv
    obtain ⟨cs, m1, m2, m3, m4⟩ := res_list (P := P) (h := h) hI hs hag fn.results.toList [r] [v] hc (by simp [hone])
    have hl : cs.length = 1 := by simpa using m2.symm
    obtain ⟨c, rfl⟩ := List.length_eq_one_iff.1 hl
    exact ⟨c, by rw [hrun _ m1]; rfl, m4 0 v c rfl rfl⟩
  | [], hv =>
    simp only [resE, List.foldr_nil, Option.map_some, Option.some.injEq] at hv
    subst hv
    obtain ⟨cs, m1, m2, m3, m4⟩ := res_list (P := P) (h := h) hI hs hag fn.results.toList [] [] hc rfl
    have hl : cs = [] := List.length_eq_zero_iff.1 (by simpa using m2.symm)
    subst hl
    exact ⟨.tuple #[], by rw [hrun _ m1]; rfl, .tup _ _ rfl (fun i x y a => by simp at a)⟩
  | r1 :: r2 :: rs, hv =>
    have hv' : ((r1 :: r2 :: rs).foldr (fun r acc => match resOne t h r, acc with | some v, some vs => some (v :: vs) | _, _ => none) (some [])).map V.tup = some v := by
      rw [← hv]
      unfold resE
      congr 1
    rw [Option.map_eq_some_iff] at hv'
    obtain ⟨vs, h1, rfl⟩ := hv'
    obtain ⟨cs, m1, m2, m3, m4⟩ := res_list (P := P) hI hs hag fn.results.toList _ vs hc h1
    refine ⟨.tuple cs.toArray, ?_, .tup _ _ (by simpa using m2) (fun i x y a b => m4 i x y a (by simpa using b))⟩
    rw [hrun _ m1, dif_neg]
    simp only [List.size_toArray]
    simp at m3
    omega

/-- A function's body. -/
theorem body_ok (hcall : CallOK P gl inl call) (hdraw : DrawOK P gl inl call) {n : Nat} {f : FuncId} {fn : Func} {c : Fn} {args : List V} {argsV : Array Value} {h h' : H} {v : V} {s : St} (hf : P.funcs[f]? = some fn) (hc : compFn P gl inl fn = some c)
    (he : bodyE inl call n c args h = some (v, h')) (hI : Inv gl s) (hl : args.length = argsV.size) (hr : ∀ (i : Nat) (x : V) (y : Value), args[i]? = some x → argsV[i]? = some y → s.vr x y) (hp : PreC s h h') :
    Calls P f argsV s.w fun e w' => ∃ s' c, e = .returned c ∧ w' = s'.w ∧ PostC gl s h h' s' ∧ s'.vr v c := by
  unfold compFn at hc
  split at hc
  · cases hc
  · rename_i code hb
    split at hc
    · rename_i cb rs h1 h2
      injection hc with hc; subst hc
      obtain ⟨x, t', k1, k2, k3⟩ := bodyE_inv he
      refine calls_of_wp hf hb ?_
      refine runC_ok hcall hdraw n code cb h1 _ h x t' h' s _ k1 hI ⟨by simp [hl], fun i => ?_, rfl⟩ hp _ fun s' a' hp' hs' => ?_
      · simp only [List.getD_eq_getElem?_getD, Array.getD_eq_getD_getElem?, List.getElem?_append, Array.getElem?_append, hl]
        by_cases hi : i < argsV.size
        · rw [if_pos hi, if_pos hi]
          have h3 : i < args.length := by omega
          rw [List.getElem?_eq_getElem h3, Array.getElem?_eq_getElem hi]
          exact hr i _ _ (List.getElem?_eq_getElem h3) (Array.getElem?_eq_getElem hi)
        · rw [if_neg hi, if_neg hi]
          simp only [List.getElem?_replicate, Array.getElem?_replicate]
          split <;> exact vund
      · obtain ⟨c, m1, m2⟩ := res_ok (P := P) (h := h') hp'.inv hs' hp'.agr h2 k3
        rcases k2 with rfl | rfl
        · exact ⟨hs'.d, c, m1, s', c, rfl, rfl, hp', m2⟩
        · exact ⟨hs'.d, c, m1, s', c, rfl, rfl, hp', m2⟩
    · cases hc
end
end Go.Am
