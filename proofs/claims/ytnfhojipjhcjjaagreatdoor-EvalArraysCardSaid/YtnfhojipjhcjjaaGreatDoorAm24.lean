/-
  THE SOUNDNESS THEOREM: a call that the evaluator carries out is one that the machine carries out, with the same result. Conditions: the functions' code is what was compiled of the program's; the functions that are known by what they answer do answer so.
-/
import Derived.Test.YtnfhojipjhcjjaaGreatDoorAm23
namespace Go.Am
set_option autoImplicit false
set_option linter.unusedVariables false
set_option linter.unusedSimpArgs false

/-- What is asked of the evaluator's functions. -/
structure EnvOK (P : Program) (gl : Nat → Option (List V)) (E : Env) : Prop where
  follows : P.follows .mixedOrders = true
  code : ∀ f c, E.code f = some c → ∃ fn, P.funcs[f]? = some fn ∧ (fn.name == "runtime.NumGoroutine") = false ∧ fn.body.isSome = true ∧ compFn P gl E.inl fn = some c
  extI : ∀ f g, E.ext f = some g → E.inl f = false ∧ ∃ fn, P.funcs[f]? = some fn ∧ (fn.name == "runtime.NumGoroutine") = false ∧ fn.body.isSome = true
  extOK : ∀ f g as v (args : Array Value) (s : St), E.ext f = some g → g as = some v → Inv gl s → as.length = args.size → (∀ (i : Nat) (x : V) (y : Value), as[i]? = some x → args[i]? = some y → CRel s.rd x y) →
    Calls P f args s.w fun e w' => ∃ s' c, e = .returned c ∧ w' = s'.w ∧ Inv gl s' ∧ Ext s s' ∧ s'.G = s.G ∧ s'.M = s.M ∧ CRel s'.rd v c

open Classical in
/-- Some objects, marked. -/
noncomputable def frzG (G : Nat → Option Ob) (is : List Nat) : Nat → Option Ob := fun id => if id ∈ is then (G id).map Ob.frozen else G id

theorem frzG_froz (G : Nat → Option Ob) (is : List Nat) : Froz G (frzG G is) := fun id => by
  unfold frzG
  split
  · exact .inr rfl
  · exact .inl rfl

section
variable {P : Program} {gl : Nat → Option (List V)} {E : Env}

/-- The arguments of a call in memory of its own. -/
theorem args_ok {s : St} {h : H} {args as : List V} {argsV : Array Value} {is : List Nat} (hI : Inv gl s) (hf : frzs h args = some (as, is)) (hl : args.length = argsV.size) (hr : ∀ (i : Nat) (x : V) (y : Value), args[i]? = some x → argsV[i]? = some y → s.vr x y)
    (hag : ∀ id ∈ is, s.G id ≠ none → (s.G id).map Ob.frozen = (h[id]?).map Ob.frozen) :
    as.length = argsV.size ∧ (∀ (i : Nat) (x : V) (y : Value), as[i]? = some x → argsV[i]? = some y → CRel (St.rd { s with G := frzG s.G is }) x y) ∧ ∀ id ∈ is, s.G id ≠ none := by
  obtain ⟨k1, k2, k3⟩ := frzL_ok args as is hf
  have hnm : ∀ id ∈ is, ¬ isMut (frzG s.G is id) := fun id hid => by
    unfold frzG; rw [if_pos hid]; exact not_mut_frozen _
  have one : ∀ (i : Nat) (x : V) (y : Value) (ys : V) (js : List Nat), args[i]? = some x → argsV[i]? = some y → frz h 40 x = some (ys, js) → (∀ j ∈ js, j ∈ is) → CRel (St.rd { s with G := frzG s.G is }) ys y ∧ ∀ id ∈ js, s.G id ≠ none ∧ id < h.length :=
    fun i x y ys js a b c d => frz_ok hI _ (frzG_froz _ _) 40 x ys js y c (hr i x y a b) (fun id hid => hag id (d id hid)) (fun id hid => hnm id (d id hid))
  refine ⟨by rw [k1, hl], fun i x y a b => ?_, fun id hid => ?_⟩
  · have hlt : i < args.length := by rw [← k1]; exact lt_some a
    obtain ⟨y', js, e1, e2, e3⟩ := k2 i _ (List.getElem?_eq_getElem hlt)
    rw [a] at e1; injection e1 with e1; subst e1
    exact (one i _ y _ js (List.getElem?_eq_getElem hlt) b e2 e3).1
  · obtain ⟨x, y', js, e1, e2, e3⟩ := k3 id hid
    obtain ⟨i, hi⟩ := List.getElem?_of_mem e1
    have hlt : i < argsV.size := by rw [← hl]; exact lt_some hi
    obtain ⟨y'', js', f1, f2, f3⟩ := k2 i x hi
    rw [e2] at f2; injection f2 with f2; injection f2 with f2 f2'; subst f2 f2'
    exact ((one i x _ _ js hi (Array.getElem?_eq_getElem hlt) e2 f3).2 id e3).1

/-- Behind a call in memory of its own. -/
theorem post_iso {s s' : St} {h : H} {is : List Nat} {v : V} {c : Value} (hI : Inv gl s') (hE : Ext s s') (hv : CRel s'.rd v c) (hG : s'.G = frzG s.G is) (hM : s'.M = s.M) (hlt : ∀ id ∈ is, id < h.length) (hacc : ∀ id ∈ is, s.G id ≠ none) :
    PostT gl s h (mark h is) v (is, []) s' c := by
  have hl := mark_len is h
  refine ⟨hI, hE, .cl _ _ hv, fun id a b => absurd a (by omega), fun id a => ?_, fun id a b d => ?_, fun id a => (by cases a), fun id a b => .inr ⟨?_, ?_⟩, fun id a => a.elim (hacc id) (fun k => (by cases k)), fun id a _ => (by rw [hM]; exact a)⟩
  · rw [hG]; unfold frzG; rw [if_neg (fun k => by have := hlt id k; omega)]
  · rw [hG]; unfold frzG; rw [if_neg b]
  · rw [hG]; unfold frzG; rw [if_pos a]
  · rw [mark_get, if_pos a]; exact not_mut_frozen _

theorem callE_inv {n : Nat} {f : FuncId} {args : List V} {h h' : H} {v : V} (he : callE E (n + 1) f args h = some (v, h')) :
    (∃ g as is, E.ext f = some g ∧ frzs h args = some (as, is) ∧ g as = some v ∧ h' = mark h is) ∨
    (E.ext f = none ∧ ∃ fn, E.code f = some fn ∧ ((E.inl f = true ∧ bodyE E.inl (callE E n) n fn args h = some (v, h')) ∨
      (E.inl f = false ∧ ∃ as is v' h2 js, frzs h args = some (as, is) ∧ bodyE E.inl (callE E n) n fn as [] = some (v', h2) ∧ frz h2 40 v' = some (v, js) ∧ h' = mark h is))) := by
  simp only [callE] at he
  split at he
  · rename_i g hg
    split at he
    · rename_i as is hf
      simp only [Option.map_eq_some_iff, Prod.mk.injEq] at he
      obtain ⟨u, h1, rfl, rfl⟩ := he
      exact .inl ⟨g, as, is, hg, hf, h1, rfl⟩
    · cases he
  · rename_i hg
    split at he
    · cases he
    · rename_i fn hfn
      refine .inr ⟨hg, fn, hfn, ?_⟩
      split at he
      · rename_i hi; exact .inl ⟨hi, he⟩
      · rename_i hi
        split at he
        · cases he
        · rename_i as is hf
          split at he
          · cases he
          · rename_i v' h2 hb
            split at he
            · rename_i r js hfr
              simp only [Option.some.injEq, Prod.mk.injEq] at he
              obtain ⟨rfl, rfl⟩ := he
              exact .inr ⟨by simpa using hi, as, is, v', h2, js, hf, hb, hfr, rfl⟩
            · cases he

theorem mark_mono {h : H} {is : List Nat} {id : Nat} (hm : isMut (mark h is)[id]?) : isMut h[id]? := by
  rw [mark_get] at hm
  split at hm
  · exact absurd hm (not_mut_frozen _)
  · exact hm

/-- THE SOUNDNESS THEOREM. -/
theorem callE_ok (hE : EnvOK P gl E) : ∀ n, CallOK P gl E.inl (callE E n)
  | 0 => ⟨fun f args h v h' he => by simp [callE] at he, fun f args h v h' he => by simp [callE] at he, fun f args h v h' _ he => by simp [callE] at he, fun f args h v h' he => by simp [callE] at he, fun f args h v h' _ s as is _ he => by simp [callE] at he,
      fun f args h v h' _ s _ he => by simp [callE] at he⟩
  | n + 1 => by
    have ih := callE_ok hE n
    have hdraw := draw_ok hE.follows ih
    refine ⟨fun f args h v h' he => ?_, fun f args h v h' he id hid hm => ?_, fun f args h v h' hni he => ?_, fun f args h v h' he => ?_, fun f args h v h' argsV s as is hni he hf hI hl hr hp => ?_, fun f args h v h' argsV s hi he hI hl hr hp => ?_⟩
    · rcases callE_inv he with ⟨g, as, is, _, _, _, rfl⟩ | ⟨_, fn, _, ⟨_, hb⟩ | ⟨_, as, is, v', h2, js, _, _, _, rfl⟩⟩
      · rw [mark_len]; exact Nat.le_refl _
      · obtain ⟨x, t', k1, _, _⟩ := bodyE_inv hb; exact runC_len ih n _ _ _ _ _ _ k1
      · rw [mark_len]; exact Nat.le_refl _
    · rcases callE_inv he with ⟨g, as, is, _, _, _, rfl⟩ | ⟨_, fn, _, ⟨_, hb⟩ | ⟨_, as, is, v', h2, js, _, _, _, rfl⟩⟩
      · exact mark_mono hm
      · obtain ⟨x, t', k1, _, _⟩ := bodyE_inv hb; exact runC_mono ih n _ _ _ _ _ _ k1 id hid hm
      · exact mark_mono hm
    · rcases callE_inv he with ⟨g, as, is, _, hf, _, rfl⟩ | ⟨_, fn, _, ⟨hi, _⟩ | ⟨_, as, is, v', h2, js, hf, _, _, rfl⟩⟩
      · exact ⟨as, is, hf, rfl⟩
      · rw [hni] at hi; cases hi
      · exact ⟨as, is, hf, rfl⟩
    · rcases callE_inv he with ⟨g, as, is, hg, _, _, _⟩ | ⟨_, fn, hc, _⟩
      · exact (hE.extI f g hg).2
      · obtain ⟨fn', k1, k2, k3, _⟩ := hE.code f fn hc; exact ⟨fn', k1, k2, k3⟩
    · -- a call in memory of its own
      obtain ⟨m1, m2, m3⟩ := args_ok hI hf hl hr hp.r
      obtain ⟨hI1, hE1⟩ := hI.froz (frzG s.G is) (frzG_froz _ _)
      have hlt := frzs_lt hf
      rcases callE_inv he with ⟨g, as', is', hg, hf', hgv, rfl⟩ | ⟨_, fn, hc, ⟨hi, _⟩ | ⟨_, as', is', v', h2, js, hf', hb, hfr, rfl⟩⟩
      · rw [hf] at hf'; injection hf' with hf'; injection hf' with e1 e2; subst e1 e2
        exact Calls.mono (hE.extOK f g as v argsV { s with G := frzG s.G is } hg hgv hI1 m1 m2) fun e w' ⟨s', c, ee, ew, k1, k2, k3, k4, k5⟩ =>
          ⟨s', c, ee, ew, post_iso k1 (hE1.trans k2) k5 k3 k4 hlt m3⟩
      · rw [hni] at hi; cases hi
      · rw [hf] at hf'; injection hf' with hf'; injection hf' with e1 e2; subst e1 e2
        obtain ⟨fn', k1, k2, k3, k4⟩ := hE.code f fn hc
        have hpin : PreC (St.inner { s with G := frzG s.G is }) [] h2 := ⟨fun id a => by simp at a, fun id _ _ => ⟨rfl, rfl⟩⟩
        refine Calls.mono (body_ok (s := St.inner { s with G := frzG s.G is }) ih hdraw k1 k4 hb (inner_inv hI1) m1 (fun i x y a b => .cl _ _ (by rw [inner_rd]; exact m2 i x y a b)) hpin) fun e w' ⟨s3, c, ee, ew, hpost, hv⟩ => ?_
        obtain ⟨hI4, hE4⟩ := hpost.inv.froz (fun id => (s3.G id).map Ob.frozen) (fun id => .inr rfl)
        have hcr := (frz_ok hpost.inv (fun id => (s3.G id).map Ob.frozen) (fun id => .inr rfl) 40 v' v js c hfr hv (fun id hid hG => (hpost.agr id (frz_lt _ _ _ _ hfr id hid) hG).1) (fun id _ => not_mut_frozen _)).1
        obtain ⟨hI5, hE5, hrd⟩ := back hI1 hI4 (hpost.ext.trans hE4)
        exact ⟨{ F := s.F, G := frzG s.G is, M := s.M, w := s3.w }, c, ee, ew, post_iso hI5 (hE1.trans hE5) (hcr.mono hrd) rfl rfl hlt m3⟩
    · rcases callE_inv he with ⟨g, as, is, hg, _, _, _⟩ | ⟨_, fn, hc, ⟨_, hb⟩ | ⟨hni, _⟩⟩
      · rw [(hE.extI f g hg).1] at hi; cases hi
      · obtain ⟨fn', k1, k2, k3, k4⟩ := hE.code f fn hc
        exact body_ok ih hdraw k1 k4 hb hI hl hr hp
      · rw [hni] at hi; cases hi
end
end Go.Am
