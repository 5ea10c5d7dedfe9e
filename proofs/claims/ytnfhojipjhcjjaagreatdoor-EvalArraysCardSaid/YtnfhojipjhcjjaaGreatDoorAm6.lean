/-
  ONE OPERATION OF THE MACHINE DOES WHAT THE EVALUATOR SAYS, THIRD PART: reading, addresses, arithmetic. Conditions: as each lemma names them.
-/
import Derived.Test.YtnfhojipjhcjjaaGreatDoorAm5
import Derived.Laws.Strings
namespace Go.Am
set_option autoImplicit false
set_option linter.unusedVariables false
set_option linter.unusedSimpArgs false

theorem map_pair {x : Option V} {h h' : H} {v : V} (e : x.map (fun y => (y, h)) = some (v, h')) : x = some v ∧ h' = h := by
  rw [Option.map_eq_some_iff] at e
  obtain ⟨a, h1, h2⟩ := e
  injection h2 with h2 h3
  exact ⟨by rw [h1, h2], h3.symm⟩

section
variable {P : Program} {gl : Nat → Option (List V)} {inl : FuncId → Bool} {call : CallF} {s : St} {h h' : H} {t : T} {v : V} {o : O} {oper : Oper} {ρ : Operand → Value} {iso : Bool}

/-- The operands hold what the slots say. -/
def Hev (gl : Nat → Option (List V)) (s : St) (t : T) (o : O) (ρ : Operand → Value) : Prop := ∀ x q, opd gl x = some q → q ∈ o.args → s.vr (ev t q) (ρ x)

theorem ok_mv {x : Operand} (hop : oper.op = .move x ∨ oper.op = .assign x) (hI : Inv gl s) (hev : Hev gl s t o ρ) (hc : compOp P gl iso oper = some o) (he : opE inl call o t h = some (v, h')) :
    OkOp gl s h h' v ((execOp ρ oper).run P s.w) := by
  have hc' : (opd gl x).map .mv = some o := by rcases hop with e | e <;> simpa only [compOp, e] using hc
  rw [Option.map_eq_some_iff] at hc'
  obtain ⟨q, h1, rfl⟩ := hc'
  simp only [opE, Option.some.injEq, Prod.mk.injEq] at he
  obtain ⟨rfl, rfl⟩ := he
  refine ok_pure hI ?_ (hev x q h1 (by simp [O.args]))
  rcases hop with e | e <;> simp [execOp, e]

theorem ok_pick {c a b0 : Operand} (hop : oper.op = .pick c a b0) (hI : Inv gl s) (hev : Hev gl s t o ρ) (hc : compOp P gl iso oper = some o) (he : opE inl call o t h = some (v, h')) :
    OkOp gl s h h' v ((execOp ρ oper).run P s.w) := by
  simp only [compOp, hop] at hc
  split at hc
  · rename_i q1 q2 q3 h1 h2 h3
    injection hc with hc; subst hc
    simp only [opE] at he
    split at he
    · rename_i b hb
      simp only [Option.some.injEq, Prod.mk.injEq] at he
      obtain ⟨rfl, rfl⟩ := he
      have hc := vr_bool (hb ▸ hev c q1 h1 (by simp [O.args]))
      refine ok_pure hI (c := if b then ρ a else ρ b0) ?_ ?_
      · simp [execOp, hop, hc, asBool]
      · cases b
        · exact hev _ q3 h3 (by simp [O.args])
        · exact hev _ q2 h2 (by simp [O.args])
    · cases he
  · cases hc

theorem ok_load {ty : TypeId} {x : Operand} (hop : oper.op = .load ty x) (hI : Inv gl s) (hev : Hev gl s t o ρ) (hc : compOp P gl iso oper = some o) (he : opE inl call o t h = some (v, h'))
    (hp : Pre s h h' (fpE o t h)) : OkOp gl s h h' v ((execOp ρ oper).run P s.w) := by
  simp only [compOp, hop] at hc
  split at hc
  · rename_i n q hw hx
    injection hc with hc; subst hc
    obtain ⟨h1, rfl⟩ := map_pair (by simpa only [opE] using he)
    rw [Option.bind_eq_some_iff] at h1
    obtain ⟨cs, h2, h3⟩ := h1
    obtain ⟨d, h4, h5⟩ := load_ok hI (hev x q hx (by simp [O.args])) (fun id off e => hp.r id (by simp [fpE, e])) h2 hw h3
    refine ok_pure hI ?_ h5
    simp [execOp, hop, h4]
  · cases hc

theorem ok_nilck {x : Operand} (hop : oper.op = .nilCheck x) (hI : Inv gl s) (hev : Hev gl s t o ρ) (hc : compOp P gl iso oper = some o) (he : opE inl call o t h = some (v, h')) :
    OkOp gl s h h' v ((execOp ρ oper).run P s.w) := by
  simp only [compOp, hop, Option.map_eq_some_iff] at hc
  obtain ⟨q, hx, rfl⟩ := hc
  have hv := hev x q hx (by simp [O.args])
  simp only [opE] at he
  split at he
  · rename_i a b hb
    simp only [Option.some.injEq, Prod.mk.injEq] at he
    obtain ⟨rfl, rfl⟩ := he
    rw [hb] at hv
    refine ok_pure hI ?_ hv
    rcases vr_own hv with ⟨l, _, e⟩ | ⟨_, a, e, _⟩ <;> simp [execOp, hop, e]
  · rename_i cs hb
    simp only [Option.some.injEq, Prod.mk.injEq] at he
    obtain ⟨rfl, rfl⟩ := he
    rw [hb] at hv
    refine ok_pure hI ?_ hv
    obtain ⟨g, off, arr, e, fr, e1, _⟩ := vr_imm hv
    simp [execOp, hop, e1]
  · rename_i f cs hb
    simp only [Option.some.injEq, Prod.mk.injEq] at he
    obtain ⟨rfl, rfl⟩ := he
    rw [hb] at hv
    refine ok_pure hI ?_ hv
    obtain ⟨arr, e1, _⟩ := vr_fn hv
    simp [execOp, hop, e1]
  · cases he

theorem cint {s : St} (k : IntKind) (n : Int) : s.vr (.int k n) (.int k n) := .cl _ _ (.int k n)
theorem cbool {s : St} (b : Bool) : s.vr (.bool b) (.bool b) := .cl _ _ (.bool b)
theorem cstr {s : St} (l : List UInt8) : s.vr (.str l) (.string ⟨l.toArray⟩) := .cl _ _ (.str _ _ (by simp))

theorem binInt_ok {op : BinOp} {k : IntKind} {a b : Int} {w : World} {ty : TypeId} (ho : op ≠ .shl) (ho' : op ≠ .shr) (hb : binInt op k a b = some v) : ∃ c, (binOp op ty (.int k a) (.int k b)).run P w = .ok c w ∧ s.vr v c := by
  cases op <;> simp only [binInt, Option.some.injEq] at hb
  case shl => exact absurd rfl ho
  case shr => exact absurd rfl ho'
  case quo =>
    split at hb
    · cases hb
    · injection hb with hb; subst hb; rename_i hz; exact ⟨_, by simp [binOp, Op.intDiv, hz], cint _ _⟩
  case rem =>
    split at hb
    · cases hb
    · injection hb with hb; subst hb; rename_i hz; exact ⟨_, by simp [binOp, Op.intDiv, hz], cint _ _⟩
  all_goals subst hb
  case lss | leq | gtr | geq | eql | neq => exact ⟨_, by simp [binOp, Op.intCmp], cbool _⟩
  all_goals exact ⟨_, by simp [binOp, Op.intArith, Op.intBits], cint _ _⟩

theorem str_eq (s : ByteArray) (l : List UInt8) (h : s.data.toList = l) : s = ⟨l.toArray⟩ := by
  cases s; subst h; rfl

theorem vr_str' {rd : Nat → Option Obj} {M : Nat → Option Loc} {D : Nat → Prop} {l : List UInt8} {c : Value} (h : VRel rd M D (.str l) c) : c = .string ⟨l.toArray⟩ := by
  obtain ⟨s, rfl, h1⟩ := vr_str h
  rw [str_eq s l h1]

theorem binStr_ok {op : BinOp} {a b : List UInt8} {w : World} {ty : TypeId} (hb : binStr op a b = some v) : ∃ c, (binOp op ty (.string ⟨a.toArray⟩) (.string ⟨b.toArray⟩)).run P w = .ok c w ∧ s.vr v c := by
  have e1 : (ByteArray.mk a.toArray).toList = a := Go.ByteArray.toList_mk a
  have e2 : (ByteArray.mk b.toArray).toList = b := Go.ByteArray.toList_mk b
  have e3 : (ByteArray.mk a.toArray).size = a.length := by simp [ByteArray.size]
  have e4 : (ByteArray.mk b.toArray).size = b.length := by simp [ByteArray.size]
  cases op <;> simp only [binStr, Option.some.injEq] at hb <;> try (cases hb; done)
  case add =>
    split at hb
    · rename_i hle
      injection hb with hb; subst hb
      have hn : ¬ (((a.length + b.length : Nat) : Int) > IntKind.i64.max) := by
        have : IntKind.i64.max = 9223372036854775807 := by decide
        rw [this]; omega
      refine ⟨.string (⟨a.toArray⟩ ++ ⟨b.toArray⟩), ?_, .cl _ _ (.str _ _ (by simp))⟩
      simp only [binOp, Op.stringOp, e3, e4, if_neg hn, Sem.run_pure]
    · cases hb
  all_goals (subst hb; exact ⟨_, by simp only [binOp, Op.stringOp, e1, e2, Sem.run_pure], cbool _⟩)

theorem bin_ok {op : BinOp} {x y : V} {c d : Value} {ty : TypeId} {w : World} (hx : s.vr x c) (hy : s.vr y d) (hb : bin op x y = some v) : ∃ e, (binOp op ty c d).run P w = .ok e w ∧ s.vr v e := by
  unfold bin at hb
  split at hb
  · rename_i k a j b
    split at hb
    · cases hb
    · rename_i hn
      injection hb with hb; subst hb
      rw [vr_int hx, vr_int hy]
      exact ⟨_, by simp [binOp, Op.shift, hn], cint _ _⟩
  · rename_i k a j b
    split at hb
    · cases hb
    · rename_i hn
      injection hb with hb; subst hb
      rw [vr_int hx, vr_int hy]
      exact ⟨_, by simp [binOp, Op.shift, hn], cint _ _⟩
  · rename_i k a j b h1 h2
    split at hb
    · rename_i hk
      subst hk
      rw [vr_int hx, vr_int hy]
      refine binInt_ok (fun e => ?_) (fun e => ?_) hb
      · exact h1 e
      · exact h2 e
    · cases hb
  · rename_i a b
    rw [vr_str' hx, vr_str' hy]
    exact binStr_ok hb
  · cases hb

theorem ok_bin {op : BinOp} {ty ty' : TypeId} {x y : Operand} (hop : oper.op = .binOp op ty x y ty') (hno : isOpInt op = true) (hI : Inv gl s) (hev : Hev gl s t o ρ) (hc : compOp P gl iso oper = some o)
    (he : opE inl call o t h = some (v, h')) : OkOp gl s h h' v ((execOp ρ oper).run P s.w) := by
  simp only [compOp, hop, hno, if_true] at hc
  split at hc
  · rename_i q1 q2 h1 h2
    injection hc with hc; subst hc
    obtain ⟨h3, rfl⟩ := map_pair (by simpa only [opE] using he)
    obtain ⟨e, h4, h5⟩ := bin_ok (P := P) (ty := ty) (w := s.w) (hev x q1 h1 (by simp [O.args])) (hev y q2 h2 (by simp [O.args])) h3
    refine ok_pure hI ?_ h5
    have hg : (eqGuard op ty x y (ρ x) (ρ y)).run P s.w = .ok () s.w := by
      cases op <;> first | rfl | cases hno
    simp [execOp, hop, hg, h4]
  · cases hc

theorem un_ok {op : UnOp} {x : V} {c : Value} {w : World} (hx : s.vr x c) (hb : un op x = some v) : ∃ e, (Op.unary op c).run P w = .ok e w ∧ s.vr v e := by
  unfold un at hb
  split at hb
  · injection hb with hb; subst hb; rw [vr_int hx]; exact ⟨_, by simp [Op.unary, Op.intArith], cint _ _⟩
  · injection hb with hb; subst hb; rw [vr_int hx]; exact ⟨_, by simp [Op.unary, Op.intBits], cint _ _⟩
  · injection hb with hb; subst hb; rw [vr_bool hx]; exact ⟨_, by simp [Op.unary], cbool _⟩
  · cases hb

theorem ok_un {op : UnOp} {ty : TypeId} {x : Operand} (hop : oper.op = .unOp op ty x) (hI : Inv gl s) (hev : Hev gl s t o ρ) (hc : compOp P gl iso oper = some o) (he : opE inl call o t h = some (v, h')) :
    OkOp gl s h h' v ((execOp ρ oper).run P s.w) := by
  simp only [compOp, hop, Option.map_eq_some_iff] at hc
  obtain ⟨q, hx, rfl⟩ := hc
  obtain ⟨h3, rfl⟩ := map_pair (by simpa only [opE] using he)
  obtain ⟨e, h4, h5⟩ := un_ok (P := P) (w := s.w) (hev x q hx (by simp [O.args])) h3
  refine ok_pure hI ?_ h5
  simp [execOp, hop, h4]

theorem opds_ok {l : List Operand} {qs : List A} (h1 : opds gl l = some qs) (hev : ∀ x q, opd gl x = some q → q ∈ qs → s.vr (ev t q) (ρ x)) :
    qs.length = l.length ∧ ∀ (i : Nat) (x : V) (y : Value), (qs.map (ev t))[i]? = some x → (l.map ρ)[i]? = some y → s.vr x y := by
  unfold opds at h1
  induction l generalizing qs with
  | nil => simp at h1; subst h1; simp
  | cons a l ih =>
    simp only [List.mapM_cons, Option.bind_eq_bind, Option.bind_eq_some_iff] at h1
    obtain ⟨q, h2, qs', h3, h4⟩ := h1
    injection h4 with h4; subst h4
    obtain ⟨h5, h6⟩ := ih h3 (fun x q' hx hq => hev x q' hx (by simp [hq]))
    refine ⟨by simp [h5], fun i x y h7 h8 => ?_⟩
    cases i with
    | zero => simp at h7 h8; subst h7 h8; exact hev a q h2 (by simp)
    | succ i => exact h6 i x y (by simpa using h7) (by simpa using h8)

theorem ok_mkfn {f : FuncId} {cap : Array Operand} (hop : oper.op = .makeFunc (.func f) #[] cap) (hI : Inv gl s) (hev : Hev gl s t o ρ) (hc : compOp P gl iso oper = some o) (he : opE inl call o t h = some (v, h')) :
    OkOp gl s h h' v ((execOp ρ oper).run P s.w) := by
  simp only [compOp, hop, Option.map_eq_some_iff] at hc
  obtain ⟨qs, hx, rfl⟩ := hc
  simp only [opE, Option.some.injEq, Prod.mk.injEq] at he
  obtain ⟨rfl, rfl⟩ := he
  obtain ⟨h1, h2⟩ := opds_ok (t := t) (ρ := ρ) hx (fun x q a b => hev x q a (by simpa [O.args] using b))
  refine ok_pure hI (c := .func (.func f) #[] (cap.map ρ)) (by simp [execOp, hop, Instr.makeFunc]) (.fn f _ _ (by simp [h1]) (fun i x y a b => h2 i x y a (by simpa using b)))

theorem fa_ok {off : Nat} {x : V} {c : Value} (hx : s.vr x c) (hb : fa off x = some v) : ∃ a : Addr, c = .pointer (some a) ∧ s.vr v (.pointer (some (a.add off))) := by
  unfold fa at hb
  split at hb
  · rename_i cs
    split at hb
    · rename_i hle
      injection hb with hb; subst hb
      obtain ⟨g, o, arr, e, fr, rfl, hg, hl, hr⟩ := vr_imm hx
      refine ⟨_, rfl, ?_⟩
      rw [add_plain]
      refine .cl _ _ (.imm _ g (o + off) arr e fr hg (fun i hi => ?_) (fun i x y a b => ?_))
      · have := hl (off + i) (by simp at hi; omega); omega
      · exact hr (off + i) x y (by simpa using a) (by rw [← Nat.add_assoc]; exact b)
    · cases hb
  · rename_i id o
    injection hb with hb; subst hb
    rcases vr_own hx with ⟨l, hM, rfl⟩ | ⟨hd, a, rfl, ha⟩
    · refine ⟨_, rfl, ?_⟩
      rw [add_plain, Nat.add_assoc]
      exact .own id (o + off) l hM
    · refine ⟨_, rfl, .ownD _ _ _ hd ?_⟩
      unfold Addr.add; split
      · exact ha
      · rfl
  · cases hb

theorem ok_fa {ty : TypeId} {f : Nat} {x : Operand} (hop : oper.op = .fieldAddr ty x f) (hI : Inv gl s) (hev : Hev gl s t o ρ) (hc : compOp P gl iso oper = some o) (he : opE inl call o t h = some (v, h')) :
    OkOp gl s h h' v ((execOp ρ oper).run P s.w) := by
  simp only [compOp, hop] at hc
  split at hc
  · rename_i fs hu
    split at hc
    · rename_i fd q hf hx
      split at hc
      · rename_i sz hsz
        split at hc
        · cases hc
        · rename_i hz
          injection hc with hc; subst hc
          obtain ⟨h3, rfl⟩ := map_pair (by simpa only [opE] using he)
          obtain ⟨a, e, h4⟩ := fa_ok (hev x q hx (by simp [O.args])) h3
          refine ok_pure hI ?_ h4
          simp only [execOp, hop, Instr.fieldAt, Sem.run_bind, r_und hu, Result.andThen_ok, hf, e, Instr.sureAddr, Sem.run_pure, fieldPlace, r_size hsz, if_neg hz]
      · cases hc
    · cases hc
  · cases hc

theorem part_ok {ty : TypeId} {n : Option Nat} {off : Nat} {cs : List V} {arr : Array Value} {w : World} (hn : cs.length = arr.size) (hr : ∀ (i : Nat) (x : V) (y : Value), cs[i]? = some x → arr[i]? = some y → s.vr x y)
    (hw : how P ty = some n) (hf : fst n (cs.drop off) = some v) : ∃ e, (part ty arr off).run P w = .ok e w ∧ s.vr v e := by
  unfold how at hw
  split at hw
  · rename_i n1 hag hsz
    injection hw with hw; subst hw
    simp only [fst] at hf
    split at hf
    · rename_i hle
      injection hf with hf; subst hf
      simp at hle
      refine ⟨.agg (arr.extract off (off + n1)), by simp only [part, Sem.run_bind, r_isAgg hag, Result.andThen_ok, if_true, r_size hsz, Sem.run_pure], .agg _ _ (by simp; omega) (fun i x y a b => ?_)⟩
      rw [List.getElem?_take] at a
      split at a
      · rw [Array.getElem?_extract] at b
        split at b
        · exact hr (off + i) x y (by simpa using a) b
        · cases b
      · cases a
    · cases hf
  · rename_i n1 hag hsz
    injection hw with hw; subst hw
    simp only [fst] at hf
    rw [List.head?_drop] at hf
    have hlt := (List.getElem?_eq_some_iff.1 hf).1
    have hlt' : off < arr.size := by omega
    refine ⟨arr[off], ?_, hr off v _ hf (Array.getElem?_eq_getElem hlt')⟩
    simp only [part, Sem.run_bind, r_isAgg hag, Result.andThen_ok, Bool.false_eq_true, if_false, Array.getElem?_eq_getElem hlt', Sem.run_pure]
  · cases hw

theorem ok_fld {ty : TypeId} {f : Nat} {x : Operand} (hop : oper.op = .field ty x f) (hI : Inv gl s) (hev : Hev gl s t o ρ) (hc : compOp P gl iso oper = some o) (he : opE inl call o t h = some (v, h')) :
    OkOp gl s h h' v ((execOp ρ oper).run P s.w) := by
  simp only [compOp, hop] at hc
  split at hc
  · rename_i fs hu
    split at hc
    · rename_i fd q hf hx
      rw [Option.map_eq_some_iff] at hc
      obtain ⟨n, hw, rfl⟩ := hc
      obtain ⟨h3, rfl⟩ := map_pair (by simpa only [opE] using he)
      have hq := hev x q hx (by simp [O.args])
      cases hqv : ev t q <;> rw [hqv] at h3 hq <;> simp only [fld] at h3 <;> try (cases h3; done)
      obtain ⟨arr, e, hn, hr⟩ := vr_agg hq
      obtain ⟨d, h4, h5⟩ := part_ok (P := P) (w := s.w) hn hr hw h3
      refine ok_pure hI ?_ h5
      simp only [execOp, hop, Instr.field, Sem.run_bind, r_und hu, Result.andThen_ok, hf, e, asAgg, Sem.run_pure, h4]
    · cases hc
  · cases hc

theorem ok_ext {x : Operand} {i : Nat} (hop : oper.op = .extract x i) (hI : Inv gl s) (hev : Hev gl s t o ρ) (hc : compOp P gl iso oper = some o) (he : opE inl call o t h = some (v, h')) :
    OkOp gl s h h' v ((execOp ρ oper).run P s.w) := by
  simp only [compOp, hop, Option.map_eq_some_iff] at hc
  obtain ⟨q, hx, rfl⟩ := hc
  obtain ⟨h3, rfl⟩ := map_pair (by simpa only [opE] using he)
  have hq := hev x q hx (by simp [O.args])
  unfold ext at h3
  split at h3
  · rename_i vs hv
    rw [hv] at hq
    obtain ⟨arr, e, hn, hr⟩ := vr_tup hq
    have hlt := (List.getElem?_eq_some_iff.1 h3).1
    have hlt' : i < arr.size := by omega
    refine ok_pure hI (c := arr[i]) ?_ (hr i v _ h3 (Array.getElem?_eq_getElem hlt'))
    simp [execOp, hop, Instr.extract, e, Array.getElem?_eq_getElem hlt']
  · cases h3

end
end Go.Am
