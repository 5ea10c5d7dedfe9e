/-
  REGIONS WHOSE ORDER IS DRAWN, FIRST PART: what must come before what; the evaluator's trace. Conditions: as each lemma names them.
-/
import Derived.Test.YtnfhojipjhcjjaaGreatDoorAm18
namespace Go.Am
set_option autoImplicit false
set_option linter.unusedVariables false
set_option linter.unusedSimpArgs false

/-! ### What any order keeps before -/

def ancF (acc : List Nat) (o : Oper) : Nat := o.after.toList.foldl (fun s e => if Region.binds .any e && decide (e.on < acc.length) then s ||| 2 ^ e.on ||| acc.getD e.on 0 else s) 0

def ancL (acc : List Nat) (l : List Oper) : List Nat := l.foldl (fun acc o => acc ++ [ancF acc o]) acc

theorem ancs_eq (ops : List Oper) : ancs ops = ancL [] ops := rfl

theorem ancL_len : ∀ (l : List Oper) (acc : List Nat), (ancL acc l).length = acc.length + l.length
  | [], acc => by simp [ancL]
  | o :: l, acc => by
    show (ancL (acc ++ [ancF acc o]) l).length = _
    rw [ancL_len l]; simp; omega

theorem ancL_old : ∀ (l : List Oper) (acc : List Nat) (k : Nat), k < acc.length → (ancL acc l).getD k 0 = acc.getD k 0
  | [], acc, k, h => rfl
  | o :: l, acc, k, h => by
    show (ancL (acc ++ [ancF acc o]) l).getD k 0 = _
    rw [ancL_old l _ k (by simp; omega)]
    simp [List.getD_eq_getElem?_getD, List.getElem?_append_left h]

theorem fold_bit (acc : List Nat) (i : Nat) : ∀ (l : List Edge) (s : Nat), (l.foldl (fun s e => if Region.binds .any e && decide (e.on < acc.length) then s ||| 2 ^ e.on ||| acc.getD e.on 0 else s) s).testBit i = true →
    s.testBit i = true ∨ ∃ e ∈ l, Region.binds .any e = true ∧ e.on < acc.length ∧ (i = e.on ∨ (acc.getD e.on 0).testBit i = true)
  | [], s, h => .inl h
  | e :: l, s, h => by
    rw [List.foldl_cons] at h
    rcases fold_bit acc i l _ h with h | ⟨e', h1, h2⟩
    · split at h
      · rename_i hc
        simp only [Bool.and_eq_true, decide_eq_true_eq] at hc
        simp only [Nat.testBit_or, Bool.or_eq_true] at h
        rcases h with (h | h) | h
        · exact .inl h
        · rw [Nat.testBit_two_pow] at h
          exact .inr ⟨e, by simp, hc.1, hc.2, .inl (of_decide_eq_true h).symm⟩
        · exact .inr ⟨e, by simp, hc.1, hc.2, .inr h⟩
      · exact .inl h
    · exact .inr ⟨e', by simp [h1], h2⟩

theorem ancL_bit : ∀ (l : List Oper) (acc : List Nat) (j i : Nat), acc.length ≤ j → j < acc.length + l.length → ((ancL acc l).getD j 0).testBit i = true →
    ∃ o e, l[j - acc.length]? = some o ∧ e ∈ o.after ∧ Region.binds .any e = true ∧ e.on < j ∧ (i = e.on ∨ ((ancL acc l).getD e.on 0).testBit i = true)
  | [], acc, j, i, h1, h2, _ => by simp at h2; omega
  | o :: l, acc, j, i, h1, h2, hb => by
    have e0 : ancL acc (o :: l) = ancL (acc ++ [ancF acc o]) l := rfl
    by_cases hj : j = acc.length
    · subst hj
      rw [e0, ancL_old l _ _ (by simp)] at hb
      simp only [List.getD_eq_getElem?_getD, List.getElem?_append_right (Nat.le_refl _), Nat.sub_self, List.getElem?_cons_zero, Option.getD_some] at hb
      rcases fold_bit acc i o.after.toList 0 hb with h | ⟨e, k1, k2, k3, k4⟩
      · simp at h
      · refine ⟨o, e, by simp, by simpa using k1, k2, k3, ?_⟩
        rcases k4 with k4 | k4
        · exact .inl k4
        · right
          rw [e0, ancL_old l _ _ (by simp; omega)]
          simpa [List.getD_eq_getElem?_getD, List.getElem?_append_left k3] using k4
    · rw [e0] at hb
      obtain ⟨o', e, k1, k2⟩ := ancL_bit l (acc ++ [ancF acc o]) j i (by simp; omega) (by simp at h2 ⊢; omega) hb
      refine ⟨o', e, ?_, by rw [e0]; exact k2⟩
      rw [show j - acc.length = (j - (acc ++ [ancF acc o]).length) + 1 from by simp; omega, List.getElem?_cons_succ]
      exact k1

/-- Is an operation carried out? -/
def Done (listed : Array Bool) (i : Nat) : Prop := listed.getD i false = true

/-- What is carried out has what it needs behind it. -/
def Closed (ops : Array Oper) (listed : Array Bool) : Prop := ∀ (j : Nat) (o : Oper), ops[j]? = some o → Done listed j → ∀ e ∈ o.after, Region.binds .any e = true → Done listed e.on

theorem anc_done {ops : Array Oper} {listed : Array Bool} (hcl : Closed ops listed) : ∀ (j i : Nat), (∀ o, ops[j]? = some o → ∀ e ∈ o.after, Region.binds .any e = true → Done listed e.on) → j < ops.size → ((ancs ops.toList).getD j 0).testBit i = true → Done listed i := by
  intro j
  induction j using Nat.strongRecOn with
  | _ j ih =>
    intro i hdep hj hb
    obtain ⟨o, e, k1, k2, k3, k4, k5⟩ := ancL_bit ops.toList [] j i (by simp) (by simpa using hj) hb
    have ho : ops[j]? = some o := by simpa using k1
    have hd := hdep o ho e k2 k3
    rcases k5 with rfl | k5
    · exact hd
    · exact ih e.on k4 i (fun o' ho' e' he' hb' => hcl e.on o' ho' hd e' he' hb') (by omega) k5

/-! ### The trace -/

/-- One step of the evaluator in a region. -/
def StepAt (inl : FuncId → Bool) (call : CallF) (T : Nat → T) (H : Nat → H) (F : Nat → List Nat × List Nat) (K : Nat → Bool) (i : Nat) (q : Op) : Prop :=
  (K i = false ∧ (∃ sl want, q.g = some (sl, want) ∧ (((T i).getD sl .und = .und) ∨ ∃ b, (T i).getD sl .und = .bool b ∧ b ≠ want)) ∧ H (i + 1) = H i ∧ T (i + 1) = put (T i) q.dst .und ∧ F i = ([], [])) ∨
  (K i = true ∧ (q.g = none ∨ ∃ sl want, q.g = some (sl, want) ∧ (T i).getD sl .und = .bool want) ∧ (∃ v, opE inl call q.op (T i) (H i) = some (v, H (i + 1)) ∧ T (i + 1) = put (T i) q.dst v) ∧ F i = fpE q.op (T i) (H i) ∧
    ∀ m ∈ q.ls, m < i → apart (F m) (F i) = true)

theorem regLE_trace {inl : FuncId → Bool} {call : CallF} : ∀ (l : List Op) (fs : List (List Nat × List Nat)) (t t' : T) (h h' : H) (k : Nat), fs.length = k → regLE inl call l fs t h = some (t', h') →
    ∃ (T : Nat → T) (H : Nat → H) (F : Nat → List Nat × List Nat) (K : Nat → Bool), T k = t ∧ H k = h ∧ T (k + l.length) = t' ∧ H (k + l.length) = h' ∧ (∀ m, m < k → F m = fs.getD m ([], [])) ∧ ∀ i q, l[i]? = some q → StepAt inl call T H F K (k + i) q
  | [], fs, t, t', h, h', k, hk, he => by
    simp only [regLE, Option.some.injEq, Prod.mk.injEq] at he
    obtain ⟨rfl, rfl⟩ := he
    exact ⟨fun _ => t, fun _ => h, fun m => fs.getD m ([], []), fun _ => false, rfl, rfl, rfl, rfl, fun _ _ => rfl, fun i q hq => by simp at hq⟩
  | o :: l, fs, t, t', h, h', k, hk, he => by
    simp only [regLE] at he
    -- the rest, from a step on
    have rest : ∀ (t1 : T) (h1 : H) (f : List Nat × List Nat) (b : Bool), regLE inl call l (fs ++ [f]) t1 h1 = some (t', h') →
        ∃ (T : Nat → Am.T) (H : Nat → Am.H) (F : Nat → List Nat × List Nat) (K : Nat → Bool), T k = t ∧ H k = h ∧ T (k + 1) = t1 ∧ H (k + 1) = h1 ∧ F k = f ∧ K k = b ∧ T (k + (o :: l).length) = t' ∧ H (k + (o :: l).length) = h' ∧ (∀ m, m < k → F m = fs.getD m ([], [])) ∧
          ∀ i q, l[i]? = some q → StepAt inl call T H F K (k + (i + 1)) q := by
      intro t1 h1 f b he1
      obtain ⟨T, H, F, K, k1, k2, k3, k4, k5, k6⟩ := regLE_trace l (fs ++ [f]) t1 t' h1 h' (k + 1) (by simp [hk]) he1
      refine ⟨fun m => if m = k then t else T m, fun m => if m = k then h else H m, F, fun m => if m = k then b else K m, by simp, by simp, by simp [k1], by simp [k2], ?_, by simp, ?_, ?_, fun m hm => ?_, fun i q hq => ?_⟩
      · rw [k5 k (by omega)]; simp [List.getD_eq_getElem?_getD, ← hk]
      · simp only [List.length_cons]; rw [if_neg (by omega), show k + (l.length + 1) = k + 1 + l.length from by omega]; exact k3
      · simp only [List.length_cons]; rw [if_neg (by omega), show k + (l.length + 1) = k + 1 + l.length from by omega]; exact k4
      · rw [k5 m (by omega)]
        simp only [List.getD_eq_getElem?_getD]
        rw [List.getElem?_append_left (by omega)]
      · have := k6 i q hq
        rw [show k + 1 + i = k + (i + 1) from by omega] at this
        unfold StepAt at this ⊢
        have n1 : k + (i + 1) ≠ k := by omega
        have n2 : k + (i + 1) + 1 ≠ k := by omega
        simp only [n1, n2, if_false]
        exact this
    have go : (q1 : o.g = none ∨ ∃ sl want, o.g = some (sl, want) ∧ t.getD sl .und = .bool want) → (if (o.ls.all fun i => apart (fs.getD i ([], [])) (fpE o.op t h)) = true then (match opE inl call o.op t h with | some (v, h1) => regLE inl call l (fs ++ [fpE o.op t h]) (put t o.dst v) h1 | none => none) else none) = some (t', h') →
        ∃ (T : Nat → Am.T) (H : Nat → Am.H) (F : Nat → List Nat × List Nat) (K : Nat → Bool), T k = t ∧ H k = h ∧ T (k + (o :: l).length) = t' ∧ H (k + (o :: l).length) = h' ∧ (∀ m, m < k → F m = fs.getD m ([], [])) ∧ ∀ i q, (o :: l)[i]? = some q → StepAt inl call T H F K (k + i) q := by
      intro hg he
      split at he
      · rename_i hap
        split at he
        · rename_i v h1 hop
          obtain ⟨T, H, F, K, k1, k2, k3, k4, k5, k6, k7, k8, k9, k10⟩ := rest _ _ _ true he
          refine ⟨T, H, F, K, k1, k2, k7, k8, k9, fun i q hq => ?_⟩
          cases i with
          | zero =>
            simp at hq; subst hq
            rw [Nat.add_zero]
            refine .inr ⟨k6, by rw [k1]; exact hg, ⟨v, by rw [k1, k2, k4]; exact hop, by rw [k3, k1]⟩, by rw [k5, k1, k2], fun m hm hlt => ?_⟩
            rw [k9 m hlt, k5]
            exact List.all_eq_true.1 hap m hm
          | succ i => exact k10 i q (by simpa using hq)
        · cases he
      · cases he
    have skip : (∃ sl want, o.g = some (sl, want) ∧ ((t.getD sl .und = .und) ∨ ∃ b, t.getD sl .und = .bool b ∧ b ≠ want)) → regLE inl call l (fs ++ [([], [])]) (put t o.dst .und) h = some (t', h') →
        ∃ (T : Nat → Am.T) (H : Nat → Am.H) (F : Nat → List Nat × List Nat) (K : Nat → Bool), T k = t ∧ H k = h ∧ T (k + (o :: l).length) = t' ∧ H (k + (o :: l).length) = h' ∧ (∀ m, m < k → F m = fs.getD m ([], [])) ∧ ∀ i q, (o :: l)[i]? = some q → StepAt inl call T H F K (k + i) q := by
      intro hg he
      obtain ⟨T, H, F, K, k1, k2, k3, k4, k5, k6, k7, k8, k9, k10⟩ := rest _ _ _ false he
      refine ⟨T, H, F, K, k1, k2, k7, k8, k9, fun i q hq => ?_⟩
      cases i with
      | zero =>
        simp at hq; subst hq
        rw [Nat.add_zero]
        exact .inl ⟨k6, by rw [k1]; exact hg, by rw [k4, k2], by rw [k3, k1], k5⟩
      | succ i => exact k10 i q (by simpa using hq)
    split at he
    · rename_i hg; exact go (.inl hg) he
    · rename_i sl want hg
      split at he
      · rename_i b hb
        split at he
        · rename_i hbw; subst hbw; exact go (.inr ⟨sl, b, hg, hb⟩) he
        · rename_i hbw; exact skip ⟨sl, want, hg, .inr ⟨b, hb, hbw⟩⟩ he
      · rename_i hb; exact skip ⟨sl, want, hg, .inl hb⟩ he
      · cases he

/-! ### Operations look at their operands alone -/

theorem opE_congr {inl : FuncId → Bool} {call : CallF} {o : O} {t t' : T} {h : H} (ht : ∀ x ∈ o.args, ev t x = ev t' x) : opE inl call o t h = opE inl call o t' h ∧ fpE o t h = fpE o t' h := by
  have opt : ∀ (x : Option A), (∀ y ∈ x.toList, ev t y = ev t' y) → x.map (ev t) = x.map (ev t') := fun x hx => by
    cases x with
    | none => rfl
    | some y => simp [hx y (by simp)]
  have pts : ∀ ps : List (Nat × Nat × A), (∀ x ∈ ps.map (·.2.2), ev t x = ev t' x) → parts t ps = parts t' ps := fun ps hx => by
    unfold parts
    refine List.map_congr_left fun p hp => ?_
    obtain ⟨a, b, x⟩ := p
    simp only [hx x (List.mem_map.2 ⟨_, hp, rfl⟩)]
  have lst : ∀ l : List A, (∀ x ∈ l, ev t x = ev t' x) → l.map (ev t) = l.map (ev t') := fun l hl => List.map_congr_left hl
  cases o <;> simp only [O.args] at ht
  case build z ps => exact ⟨by simp only [opE, pts _ ht], rfl⟩
  case bsl n sz z ps => exact ⟨by simp only [opE, pts _ ht], rfl⟩
  case mkfn f c => exact ⟨by simp only [opE, lst _ ht], rfl⟩
  case call f c => exact ⟨by simp only [opE, lst _ ht], by simp only [fpE, lst _ ht]⟩
  case minmax m c => exact ⟨by simp only [opE, lst _ ht], rfl⟩
  case dyn i x c => 
    have h1 := ht x (by simp)
    have h2 := lst c (fun y hy => ht y (by simp [hy]))
    exact ⟨by simp only [opE, h1, h2], by simp only [fpE, h1, h2]⟩
  case slc sz x lo hi mx =>
    have h1 := ht x (by simp)
    have h2 := opt lo (fun y hy => ht y (by simp at hy ⊢; simp [hy]))
    have h3 := opt hi (fun y hy => ht y (by simp at hy ⊢; simp [hy]))
    have h4 := opt mx (fun y hy => ht y (by simp at hy ⊢; simp [hy]))
    exact ⟨by simp only [opE, h1, h2, h3, h4], rfl⟩
  case sls x lo hi =>
    have h1 := ht x (by simp)
    have h2 := opt lo (fun y hy => ht y (by simp at hy ⊢; simp [hy]))
    have h3 := opt hi (fun y hy => ht y (by simp at hy ⊢; simp [hy]))
    exact ⟨by simp only [opE, h1, h2, h3], rfl⟩
  case sla n sz x lo hi =>
    have h1 := ht x (by simp)
    have h2 := opt lo (fun y hy => ht y (by simp at hy ⊢; simp [hy]))
    have h3 := opt hi (fun y hy => ht y (by simp at hy ⊢; simp [hy]))
    exact ⟨by simp only [opE, h1, h2, h3], by simp only [fpE, h1]⟩
  case conv c x =>
    have h1 := ht x (by simp)
    cases c <;> exact ⟨by simp only [opE, h1], by simp only [fpE, h1]⟩
  all_goals
    simp only [List.mem_cons, List.not_mem_nil, or_false, forall_eq_or_imp, forall_eq] at ht
    try simp only [opE, fpE, ht, and_self]
end Go.Am
