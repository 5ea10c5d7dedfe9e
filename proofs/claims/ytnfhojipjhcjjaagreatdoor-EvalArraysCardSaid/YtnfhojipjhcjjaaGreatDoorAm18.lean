/-
  CODE: what the evaluator says of it, the machine does. Conditions: as each lemma names them.
-/
import Derived.Test.YtnfhojipjhcjjaaGreatDoorAm17
namespace Go.Am
set_option autoImplicit false
set_option linter.unusedVariables false
set_option linter.unusedSimpArgs false

def X.out : X → Exit
  | .nrm => .normal
  | .exit id => .exit id
  | .ret => .ret

/-- What a region whose order is drawn is worth. -/
def DrawOK (P : Program) (gl : Nat → Option (List V)) (inl : FuncId → Bool) (call : CallF) : Prop :=
  ∀ (id : Nat) (ops : Array Oper) (l : List Op) (t t' : T) (h h' : H) (s : St) (a : Act) (Q : Exit → Act → World → Prop),
    (∃ l0, compReg P gl true ops.toList = some l0 ∧ (l = l0 ∨ l = loosen inl (ancs ops.toList) l0)) → drawOk inl ops.toList l = true → regLE inl call l [] t h = some (t', h') →
    Inv gl s → Slots s t a → PreC s h h' → (∀ s' a', PostC gl s h h' s' → Slots s' t' a' → Q .normal a' s'.w) → (Code.region id ops true).wp P Q a s.w

section
variable {P : Program} {gl : Nat → Option (List V)} {inl : FuncId → Bool} {call : CallF}

theorem compReg_get {iso : Bool} {ops : List Oper} {l : List Op} (h : compReg P gl iso ops = some l) : l.length = ops.length ∧
    ∀ (i : Nat) (q : Op) (oper : Oper), l[i]? = some q → ops[i]? = some oper → compOp P gl iso oper = some q.op ∧ guardOf ops oper = some q.g ∧ oper.dst = q.dst ∧ q.op.args.all A.fine = true ∧ q.ls = [] := by
  unfold compReg at h
  have key : ∀ (all os : List Oper) (l : List Op), (os.mapM fun o => match compOp P gl iso o, guardOf all o with
      | some q, some g => if q.args.all A.fine then some ({ dst := o.dst, g := g, op := q } : Op) else none
      | _, _ => none) = some l → l.length = os.length ∧ ∀ (i : Nat) (q : Op) (oper : Oper), l[i]? = some q → os[i]? = some oper → compOp P gl iso oper = some q.op ∧ guardOf all oper = some q.g ∧ oper.dst = q.dst ∧ q.op.args.all A.fine = true ∧ q.ls = [] := by
    intro all os
    induction os with
    | nil => intro l h; simp at h; subst h; simp
    | cons o os ih =>
      intro l h
      simp only [List.mapM_cons, Option.bind_eq_bind, Option.bind_eq_some_iff] at h
      obtain ⟨q0, h1, l', h2, h3⟩ := h
      injection h3 with h3; subst h3
      obtain ⟨k1, k2⟩ := ih l' h2
      refine ⟨by simp [k1], fun i q oper a b => ?_⟩
      cases i with
      | zero =>
        simp at a b; subst a b
        split at h1
        · rename_i q' g e1 e2
          split at h1
          · rename_i hf
            injection h1 with h1; subst h1
            exact ⟨e1, e2, rfl, hf, rfl⟩
          · cases h1
        · cases h1
      | succ i => exact k2 i q oper (by simpa using a) (by simpa using b)
  exact key ops ops l h

theorem regL_of_reg : ∀ (l : List Op) (fs : List (List Nat × List Nat)) (t : T) (h : H), (∀ o ∈ l, o.ls = []) → regLE inl call l fs t h = regE inl call l t h
  | [], fs, t, h, _ => rfl
  | o :: l, fs, t, h, hl => by
    have h0 := hl o (by simp)
    have ih := fun fs t h => regL_of_reg l fs t h (fun o ho => hl o (by simp [ho]))
    simp only [regLE, regE, h0, List.all_nil, if_true, ih]

theorem loopE_len {f : T → H → Option (X × T × H)} (hf : ∀ t h x t' h', f t h = some (x, t', h') → h.length ≤ h'.length) : ∀ (n : Nat) (t : T) (h : H) (x : X) (t' : T) (h' : H), loopE f n t h = some (x, t', h') → h.length ≤ h'.length
  | 0, t, h, x, t', h', he => by simp [loopE] at he
  | n + 1, t, h, x, t', h', he => by
    simp only [loopE] at he
    split at he
    · rename_i t1 h1 e; exact Nat.le_trans (hf _ _ _ _ _ e) (loopE_len hf n _ _ _ _ _ he)
    · exact hf _ _ _ _ _ he

theorem regLE_len (hcall : CallOK P gl inl call) : ∀ (l : List Op) (fs : List (List Nat × List Nat)) (t t' : T) (h h' : H), regLE inl call l fs t h = some (t', h') → h.length ≤ h'.length
  | [], fs, t, t', h, h', he => by simp only [regLE, Option.some.injEq, Prod.mk.injEq] at he; rw [he.2]; exact Nat.le_refl _
  | o :: l, fs, t, t', h, h', he => by
    simp only [regLE] at he
    have go : ∀ {x : Option (V × H)}, x = opE inl call o.op t h → (if (o.ls.all fun i => apart (fs.getD i ([], [])) (fpE o.op t h)) = true then (match x with | some (v, h1) => regLE inl call l (fs ++ [fpE o.op t h]) (put t o.dst v) h1 | none => none) else none) = some (t', h') → h.length ≤ h'.length := fun {x} hx he => by
      split at he
      · cases x with
        | none => cases he
        | some p => obtain ⟨v, h1⟩ := p; exact Nat.le_trans (opE_len hcall hx.symm) (regLE_len hcall l _ _ _ _ _ he)
      · cases he
    split at he
    · exact go rfl he
    · split at he
      · split at he
        · exact go rfl he
        · exact regLE_len hcall l _ _ _ _ _ he
      · exact regLE_len hcall l _ _ _ _ _ he
      · cases he

theorem runC_len (hcall : CallOK P gl inl call) (n : Nat) : ∀ (c : C) (t : T) (h : H) (x : X) (t' : T) (h' : H), runC inl call n c t h = some (x, t', h') → h.length ≤ h'.length := by
  intro c
  induction c with
  | skip => intro t h x t' h' he; simp only [runC, Option.some.injEq, Prod.mk.injEq] at he; rw [he.2.2]; exact Nat.le_refl _
  | exit id => intro t h x t' h' he; simp only [runC, Option.some.injEq, Prod.mk.injEq] at he; rw [he.2.2]; exact Nat.le_refl _
  | ret => intro t h x t' h' he; simp only [runC, Option.some.injEq, Prod.mk.injEq] at he; rw [he.2.2]; exact Nat.le_refl _
  | reg ops =>
    intro t h x t' h' he
    simp only [runC, Option.map_eq_some_iff, Prod.mk.injEq] at he
    obtain ⟨⟨t1, h1⟩, e, _, rfl, rfl⟩ := he
    exact regE_len hcall _ _ _ _ _ e
  | regL ops =>
    intro t h x t' h' he
    simp only [runC, Option.map_eq_some_iff, Prod.mk.injEq] at he
    obtain ⟨⟨t1, h1⟩, e, _, rfl, rfl⟩ := he
    exact regLE_len hcall _ _ _ _ _ _ e
  | seq a b iha ihb =>
    intro t h x t' h' he
    simp only [runC] at he
    split at he
    · rename_i t1 h1 e; exact Nat.le_trans (iha _ _ _ _ _ e) (ihb _ _ _ _ _ he)
    · exact iha _ _ _ _ _ he
  | cond c a b iha ihb =>
    intro t h x t' h' he
    simp only [runC] at he
    split at he
    · exact iha _ _ _ _ _ he
    · exact ihb _ _ _ _ _ he
    · cases he
  | block id c ih =>
    intro t h x t' h' he
    simp only [runC] at he
    split at he
    · rename_i j t1 h1 e
      simp only [Option.some.injEq, Prod.mk.injEq] at he
      obtain ⟨_, rfl, rfl⟩ := he
      exact ih _ _ _ _ _ e
    · exact ih _ _ _ _ _ he
  | loop c ih =>
    intro t h x t' h' he
    simp only [runC] at he
    exact loopE_len (fun t h x t' h' e => ih t h x t' h' e) n _ _ _ _ _ he

/-- Code. -/
theorem runC_ok (hcall : CallOK P gl inl call) (hdraw : DrawOK P gl inl call) (n : Nat) : ∀ (code : Code) (c : C), comp P gl inl code = some c → ∀ (t : T) (h : H) (x : X) (t' : T) (h' : H) (s : St) (a : Act), runC inl call n c t h = some (x, t', h') →
    Inv gl s → Slots s t a → PreC s h h' → ∀ Q : Exit → Act → World → Prop, (∀ s' a', PostC gl s h h' s' → Slots s' t' a' → Q x.out a' s'.w) → code.wp P Q a s.w
  | .skip, c, hc, t, h, x, t', h', s, a, he, hI, hs, hp, Q, hq => by
    simp only [comp, Option.some.injEq] at hc; subst hc
    simp only [runC, Option.some.injEq, Prod.mk.injEq] at he
    obtain ⟨rfl, rfl, rfl⟩ := he
    exact wp_skip (hq s a (PostC.refl hI hp) hs)
  | .exit id, c, hc, t, h, x, t', h', s, a, he, hI, hs, hp, Q, hq => by
    simp only [comp, Option.some.injEq] at hc; subst hc
    simp only [runC, Option.some.injEq, Prod.mk.injEq] at he
    obtain ⟨rfl, rfl, rfl⟩ := he
    exact wp_exit (hq s a (PostC.refl hI hp) hs)
  | .ret, c, hc, t, h, x, t', h', s, a, he, hI, hs, hp, Q, hq => by
    simp only [comp, Option.some.injEq] at hc; subst hc
    simp only [runC, Option.some.injEq, Prod.mk.injEq] at he
    obtain ⟨rfl, rfl, rfl⟩ := he
    exact wp_ret (hq s a (PostC.refl hI hp) hs)
  | .region id ops d, c, hc, t, h, x, t', h', s, a, he, hI, hs, hp, Q, hq => by
    simp only [comp] at hc
    split at hc
    · rename_i l hl
      obtain ⟨k1, k2⟩ := compReg_get hl
      cases d with
      | true =>
        simp only [if_true] at hc
        split at hc
        · rename_i hd
          injection hc with hc; subst hc
          simp only [runC, Option.map_eq_some_iff, Prod.mk.injEq] at he
          obtain ⟨⟨t1, h1⟩, e, rfl, rfl, rfl⟩ := he
          refine hdraw id ops l t t1 h h1 s a Q ⟨l, hl, .inl rfl⟩ hd ?_ hI hs hp hq
          rw [regL_of_reg]
          · exact e
          · intro o ho
            obtain ⟨i, hi⟩ := List.getElem?_of_mem ho
            have hlt : i < ops.toList.length := by rw [← k1]; exact lt_some hi
            exact (k2 i o _ hi (List.getElem?_eq_getElem hlt)).2.2.2.2
        · split at hc
          · rename_i hd
            injection hc with hc; subst hc
            simp only [runC, Option.map_eq_some_iff, Prod.mk.injEq] at he
            obtain ⟨⟨t1, h1⟩, e, rfl, rfl, rfl⟩ := he
            exact hdraw id ops _ t t1 h h1 s a Q ⟨l, hl, .inr rfl⟩ hd e hI hs hp hq
          · cases hc
      | false =>
        simp only [Bool.false_eq_true, if_false, Option.some.injEq] at hc; subst hc
        simp only [runC, Option.map_eq_some_iff, Prod.mk.injEq] at he
        obtain ⟨⟨t1, h1⟩, e, rfl, rfl, rfl⟩ := he
        refine wp_region ?_
        have hn : List.range ops.size = List.range' 0 l.length := by rw [List.range_eq_range', k1]; simp
        rw [hn]
        exact reg_ok hcall l ops.toList 0 t t1 h h1 s a e (by rw [k1]) (fun i => by simp) (fun i q oper e1 e2 => by
          obtain ⟨m1, m2, m3, m4, _⟩ := k2 i q oper e1 e2
          exact ⟨m1, m2, m3, m4⟩) hI hs hp hq
    · cases hc
  | .seq x y, c, hc, t, h, xo, t', h', s, a, he, hI, hs, hp, Q, hq => by
    simp only [comp] at hc
    split at hc
    · rename_i cx cy h1 h2
      injection hc with hc; subst hc
      simp only [runC] at he
      refine wp_seq ?_
      split at he
      · rename_i t1 h1' e
        have hlen := runC_len hcall n _ _ _ _ _ _ he
        refine runC_ok hcall hdraw n x cx h1 t h .nrm t1 h1' s a e hI hs (hp.first hlen) _ fun s1 a1 hp1 hs1 => ?_
        exact runC_ok hcall hdraw n y cy h2 t1 h1' xo t' h' s1 a1 he hp1.inv hs1 (hp.next hp1) Q fun s' a' hp' hs' => hq s' a' (hp1.trans hp') hs'
      · rename_i hne
        refine runC_ok hcall hdraw n x cx h1 t h xo t' h' s a he hI hs hp _ fun s' a' hp' hs' => ?_
        cases xo with
        | nrm => exact absurd he (fun hh => hne _ _ hh)
        | exit id => exact hq s' a' hp' hs'
        | ret => exact hq s' a' hp' hs'
    · cases hc
  | .cond q x y, c, hc, t, h, xo, t', h', s, a, he, hI, hs, hp, Q, hq => by
    simp only [comp] at hc
    split at hc
    · rename_i cq cx cy h0 h1 h2
      injection hc with hc; subst hc
      simp only [runC] at he
      have hv := hev_of hI hs q cq h0
      split at he
      · rename_i hb
        rw [hb] at hv
        exact wp_cond_true (vr_bool hv) (runC_ok hcall hdraw n x cx h1 t h xo t' h' s a he hI hs hp Q hq)
      · rename_i hb
        rw [hb] at hv
        exact wp_cond_false (vr_bool hv) (runC_ok hcall hdraw n y cy h2 t h xo t' h' s a he hI hs hp Q hq)
      · cases he
    · cases hc
  | .block id x, c, hc, t, h, xo, t', h', s, a, he, hI, hs, hp, Q, hq => by
    simp only [comp, Option.map_eq_some_iff] at hc
    obtain ⟨cx, h1, rfl⟩ := hc
    simp only [runC] at he
    refine wp_block ?_
    split at he
    · rename_i j t1 h1' e
      simp only [Option.some.injEq, Prod.mk.injEq] at he
      obtain ⟨rfl, rfl, rfl⟩ := he
      refine runC_ok hcall hdraw n x cx h1 t h (.exit j) t1 h1' s a e hI hs hp _ fun s' a' hp' hs' => ?_
      have := hq s' a' hp' hs'
      simp only [X.out, Exit.inBlock]
      split
      · rename_i hj; subst hj; simpa [X.out] using this
      · rename_i hj; simpa [hj, X.out] using this
    · rename_i hne
      refine runC_ok hcall hdraw n x cx h1 t h xo t' h' s a he hI hs hp _ fun s' a' hp' hs' => ?_
      cases xo with
      | nrm => exact hq s' a' hp' hs'
      | exit id' => exact absurd he (fun hh => hne _ _ _ hh)
      | ret => exact hq s' a' hp' hs'
  | .loop x, c, hc, t, h, xo, t', h', s, a, he, hI, hs, hp, Q, hq => by
    simp only [comp, Option.map_eq_some_iff] at hc
    obtain ⟨cx, h1, rfl⟩ := hc
    simp only [runC] at he
    refine wp_loop_rounds n ?_
    have ih := fun t h xo t' h' s a he hI hs hp Q hq => runC_ok hcall hdraw n x cx h1 t h xo t' h' s a he hI hs hp Q hq
    have key : ∀ (m : Nat) (t : T) (h : H) (s : St) (a : Act), loopE (fun t h => runC inl call n cx t h) m t h = some (xo, t', h') → Inv gl s → Slots s t a → PreC s h h' → (∀ s' a', PostC gl s h h' s' → Slots s' t' a' → Q xo.out a' s'.w) → Code.rounds P x Q m a s.w := by
      intro m
      induction m with
      | zero => intro t h s a he; simp [loopE] at he
      | succ m ihm =>
        intro t h s a he hI hs hp hq
        simp only [loopE] at he
        rw [rounds_succ]
        split at he
        · rename_i t1 h1' e
          have hlen := loopE_len (fun t h x t' h' e => runC_len hcall n _ t h x t' h' e) m _ _ _ _ _ he
          exact ih t h .nrm t1 h1' s a e hI hs (hp.first hlen) _ fun s1 a1 hp1 hs1 => ihm t1 h1' s1 a1 he hp1.inv hs1 (hp.next hp1) fun s' a' hp' hs' => hq s' a' (hp1.trans hp') hs'
        · rename_i hne
          refine ih t h xo t' h' s a he hI hs hp _ fun s' a' hp' hs' => ?_
          cases xo with
          | nrm => exact absurd he (fun hh => hne _ _ hh)
          | exit id => exact hq s' a' hp' hs'
          | ret => exact hq s' a' hp' hs'
    exact key n t h s a he hI hs hp hq
  | .label _, c, hc, _, _, _, _, _, _, _, _, _, _, _, _, _ => by simp [comp] at hc
  | .goto _, c, hc, _, _, _, _, _, _, _, _, _, _, _, _, _ => by simp [comp] at hc
  | .scope _, c, hc, _, _, _, _, _, _, _, _, _, _, _, _, _ => by simp [comp] at hc
  | .rangeFunc _ _ _ _, c, hc, _, _, _, _, _, _, _, _, _, _, _, _, _ => by simp [comp] at hc
  | .refuse _, c, hc, _, _, _, _, _, _, _, _, _, _, _, _, _ => by simp [comp] at hc
end
end Go.Am
