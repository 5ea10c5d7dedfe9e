/-
  ONE OPERATION OF THE MACHINE DOES WHAT THE EVALUATOR SAYS: every operation but a call of a function. Conditions: as the lemma names them.
-/
import Derived.Test.YtnfhojipjhcjjaaGreatDoorAm12
namespace Go.Am
set_option autoImplicit false
set_option linter.unusedVariables false
set_option linter.unusedSimpArgs false

/-- Is it a call of a function? -/
def O.isCall : O → Bool
  | .call _ _ | .dyn _ _ _ => true
  | _ => false

section
variable {P : Program} {gl : Nat → Option (List V)} {inl : FuncId → Bool} {call : CallF} {s : St} {h h' : H} {t : T} {v : V} {o : O} {oper : Oper} {ρ : Operand → Value} {iso : Bool}

theorem op_ok (hnc : o.isCall = false) (hI : Inv gl s) (hev : Hev gl s t o ρ) (hc : compOp P gl iso oper = some o) (he : opE inl call o t h = some (v, h')) (hp : Pre s h h' (fpE o t h)) :
    OkOp gl s h h' v ((execOp ρ oper).run P s.w) := by
  have hc0 := hc
  cases hop : oper.op with
  | move x => exact ok_mv (.inl hop) hI hev hc he
  | assign x => exact ok_mv (.inr hop) hI hev hc he
  | pick c a b => exact ok_pick hop hI hev hc he
  | alloc t => exact ok_alloc hop hI hc he hp
  | box t x => exact ok_box hop hI hev hc he hp
  | build t ps => exact ok_build hop hI hev hc he
  | buildSlice t n ps => exact ok_bsl hop hI hev hc he hp
  | load t x => exact ok_load hop hI hev hc he hp
  | store t p x => exact ok_store hop hI hev hc he hp
  | nilCheck x => exact ok_nilck hop hI hev hc he
  | binOp op ty x y ty' =>
    cases hb : isOpInt op with
    | true => exact ok_bin hop hb hI hev hc he
    | false => exact ok_eq hop hb hI hev hc he
  | unOp op ty x => exact ok_un hop hI hev hc he
  | convert sd dd x =>
    simp only [compOp, hop] at hc
    split at hc
    · rename_i h1 h2 h3; exact ok_convInt hop h2 h3 hI hev hc0 he
    · rename_i h1 h2 h3; exact ok_convSame hop h2 h3 hI hev hc0 he
    · rename_i h1 h2 h3
      split at hc
      · rename_i h4; exact ok_b2s hop h2 h4 h3 hI hev hc0 he hp
      · cases hc
    · rename_i h1 h2 h3
      split at hc
      · rename_i h4; exact ok_s2b hop h2 h3 h4 hI hev hc0 he
      · cases hc
    · cases hc
  | makeFunc fn first cap =>
    cases fn with
    | func f =>
      obtain ⟨l⟩ := first
      cases l with
      | nil => exact ok_mkfn hop hI hev hc he
      | cons a l => simp [compOp, hop] at hc
    | _ => simp [compOp, hop] at hc
  | makeMap ty r =>
    cases r with
    | none => exact ok_mkmap hop hI hc he hp
    | some r => simp [compOp, hop] at hc
  | makeSlice t n c => exact ok_mksl hop hI hev hc he hp
  | slice ty x lo hi mx =>
    simp only [compOp, hop] at hc
    split at hc
    · rename_i hu; exact ok_sls hop hu hI hev hc0 he
    · rename_i e hu; exact ok_slc hop hu hI hev hc0 he
    · rename_i n e hu; exact ok_sla hop hu hI hev hc0 he hp
    · cases hc
  | fieldAddr ty x f => exact ok_fa hop hI hev hc he
  | field ty x f => exact ok_fld hop hI hev hc he
  | indexAddr ty x i =>
    simp only [compOp, hop] at hc
    split at hc
    · rename_i e hu; exact ok_ia hop hu hI hev hc0 he
    · rename_i n e hu; exact ok_iaa hop hu hI hev hc0 he
    · cases hc
  | index ty x i =>
    simp only [compOp, hop] at hc
    split at hc
    · rename_i hu; exact ok_ixs hop hu hI hev hc0 he
    · rename_i n e hu; exact ok_ixa hop hu hI hev hc0 he
    · cases hc
  | lookup ty m k ok =>
    have hns : P.underlying ty ≠ some .string := fun hq => by simp [compOp, hop, hq] at hc
    exact ok_look hop hns hI hev hc he hp
  | mapUpdate ty m k x => exact ok_mupd (.inl hop) hI hev hc he hp
  | insert ty m k x => exact ok_mupd (.inr hop) hI hev hc he hp
  | extract x i => exact ok_ext hop hI hev hc he
  | call c =>
    cases hcal : c.callee with
    | value f =>
      exfalso
      simp only [compOp, hop, hcal] at hc
      split at hc
      · split at hc
        · split at hc
          · injection hc with hc; subst hc; simp [O.isCall] at hnc
          · cases hc
        · cases hc
      · rename_i x hx
        split at hc
        · injection hc with hc; subst hc; simp [O.isCall] at hnc
        · cases hc
      all_goals first | (cases hc; done) | (rename_i hx; cases hx; done) | skip
    | invoke r m => simp [compOp, hop, hcal] at hc
    | builtin b =>
      cases b with
      | append =>
        simp only [compOp, hop, hcal] at hc
        split at hc
        · rename_i sx xx st xt ha ht
          split at hc
          · rename_i e f hu hx
            split at hc
            · rename_i i z q1 q2 hi hz hq1 hq2
              split at hc
              · rename_i hpos
                injection hc with hc; subst hc
                exact ok_app hop hcal ha ht hu (.inl ⟨_, hx⟩) hi hz hq1 hq2 hpos hI hev he hp
              · cases hc
            · cases hc
          · rename_i e hu hx
            split at hc
            · rename_i i z q1 q2 hi hz hq1 hq2
              split at hc
              · rename_i hpos
                injection hc with hc; subst hc
                exact ok_app hop hcal ha ht hu (.inr hx) hi hz hq1 hq2 hpos hI hev he hp
              · cases hc
            · cases hc
          · cases hc
        · cases hc
      | len =>
        simp only [compOp, hop, hcal] at hc
        split at hc
        · rename_i x ty ha ht
          exact ok_len hop hcal ha ht hI hev hc0 he hp
        · cases hc
      | min => exact ok_minmax (mx := false) hop hcal hI hev hc he
      | max => exact ok_minmax (mx := true) hop hcal hI hev hc he
      | clear =>
        simp only [compOp, hop, hcal] at hc
        split at hc
        · rename_i x ty ha ht
          split at hc
          · rename_i e hu
            split at hc
            · rename_i z q hz hq
              injection hc with hc; subst hc
              exact ok_clr hop hcal ha ht hu hz hq hI hev he hp
            · cases hc
          · cases hc
        · cases hc
      | _ => simp [compOp, hop, hcal] at hc
  | _ => simp [compOp, hop] at hc
end
end Go.Am
