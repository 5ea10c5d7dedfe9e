/-
  PICK. Conditions: as each theorem names them.
-/
import Derived.Test.YtnfhojipjhcjjaaGreatDoorEa4
import Derived.KernelRfl
namespace Go.Proofs
namespace Ea
open Go.Am
set_option autoImplicit false
set_option linter.unusedVariables false
set_option linter.unusedSimpArgs false
set_option maxRecDepth 100000
set_option maxHeartbeats 4000000


/-- Parts of code. -/
def cl : C → C
  | .seq a _ => a
  | c => c
def cr : C → C
  | .seq _ b => b
  | c => c
def cb : C → C
  | .block _ b => b
  | c => c
def cp : C → C
  | .loop b => b
  | c => c
/-- The round of Short's loop; what stands ahead of it; Pick's test. -/
def b37 : C := cp (cb (cr (cl (cr (cr (cr c37.body))))))
def p37a : C := .seq (cl c37.body) (.seq (cl (cr c37.body)) (.seq (cl (cr (cr c37.body))) (cl (cl (cr (cr (cr c37.body)))))))
def p36a : C := .seq (cl c36.body) (cl (cr c36.body))
theorem x36_n (i m : Int) : fnX E (on [7] (sp 0)) 20 c36 [.nils, .int .i64 i, .int .i64 m] = bif decide (i < 0) then some (V.int IntKind.i64 0) else bif decide (i ≥ 0) then some (V.int IntKind.i64 0) else bif i == 0 then none else none := by kernel_rfl

theorem x36_a (cs : List V) (len : Nat) (i m : Int) : runX E.inl (callX E (on [7] (sp 0)) 20) 20 p36a ([.isl cs len none, .int .i64 i, .int .i64 m] ++ List.replicate 18 .und) [] (fun x t h => some (x, t, h)) = bif decide (i < 0) then some (X.ret, [V.isl cs len none, V.int IntKind.i64 i, V.int IntKind.i64 m, V.und, V.und, V.und, V.int IntKind.i64 0, V.int IntKind.i64 i, V.bool (decide (i < 0)), V.bool true, V.und, V.und, V.und, V.und, V.bool true, V.und, V.und, V.und, V.und, V.und, V.und], []) else bif decide (i ≥ (↑len : Int)) then some (X.ret, [V.isl cs len none, V.int IntKind.i64 i, V.int IntKind.i64 m, V.und, V.und, V.und, V.int IntKind.i64 0, V.int IntKind.i64 i, V.bool (decide (i < 0)), V.bool false, V.int IntKind.i64 i, V.isl cs len none, V.int IntKind.i64 (↑len : Int), V.bool (decide (i ≥ (↑len : Int))), V.bool true, V.und, V.und, V.und, V.und, V.und, V.und], []) else some (X.nrm, [V.isl cs len none, V.int IntKind.i64 i, V.int IntKind.i64 m, V.und, V.und, V.und, V.int IntKind.i64 0, V.int IntKind.i64 i, V.bool (decide (i < 0)), V.bool false, V.int IntKind.i64 i, V.isl cs len none, V.int IntKind.i64 (↑len : Int), V.bool (decide (i ≥ (↑len : Int))), V.bool false, V.und, V.und, V.und, V.und, V.und, V.und], []) := by kernel_rfl


theorem wpA_run {sp : Sp} (hs : SpOK E sp) {n m : Nat} {c : C} {t t' : T} {h h' : H} {x : X} {Q : X → T → H → Prop} (e : runX E.inl (callX E sp n) m c t h (fun x t h => some (x, t, h)) = some (x, t', h')) (q : Q x t' h') : wpA E c t h Q :=
  (runX_some (callX_sound hs n) m c e).mono fun x t h k => by cases k; exact q

theorem wpA_assoc {E : Env} {a b c : C} {t : T} {h : H} {Q : X → T → H → Prop} (k : wpA E (.seq (.seq a b) c) t h Q) : wpA E (.seq a (.seq b c)) t h Q := by
  obtain ⟨x, t', h', q, e⟩ := k
  refine ⟨x, t', h', q, e.mono fun m k => ?_⟩
  rw [← k]
  simp only [runC]
  cases runC E.inl (callE E m) m a t h with
  | none => rfl
  | some r =>
    obtain ⟨y, t1, h1⟩ := r
    cases y <;> rfl

theorem p36 {cs : List V} {i m : Int} (hsh : shI cs = true) (hm : (m != 0) = true) : Ans E 36 [.isl cs cs.length none, .int .i64 i, .int .i64 m] (.int .i64 (pick (.isl cs cs.length none) i m)) := by
  have hd : (decI (.isl cs cs.length none)).length = cs.length := by unfold decI; rw [List.length_map]
  intro args h is hf
  refine callA_iso (fn := c36) (js := []) rfl (by kernel_rfl) rfl hf ?_
  show wpA E (.seq (cl c36.body) (.seq (cl (cr c36.body)) (cr (cr c36.body)))) ([.isl cs cs.length none, .int .i64 i, .int .i64 m] ++ List.replicate 18 .und) [] _
  refine wpA_assoc (wpA_seq ?_)
  by_cases h1 : i < 0
  · have e1 := x36_a cs cs.length i m
    rw [decide_eq_true h1] at e1
    refine wpA_run (ok7 0) e1 ?_
    refine ⟨.inr rfl, _, rfl, ?_⟩
    unfold pick
    rw [if_pos h1]
    exact frz_int _ _ _
  · by_cases h2 : i ≥ (cs.length : Int)
    · have e1 := x36_a cs cs.length i m
      rw [decide_eq_false h1, decide_eq_true h2] at e1
      refine wpA_run (ok7 0) e1 ?_
      refine ⟨.inr rfl, _, rfl, ?_⟩
      unfold pick
      rw [if_neg h1, hd, if_pos h2]
      exact frz_int _ _ _
    · have hi : i.toNat < cs.length := by omega
      obtain ⟨x, hx, hdr⟩ : ∃ x : Int, (decI (.isl cs cs.length none)).getD i.toNat 0 = x ∧ ∃ r, cs.drop i.toNat = .int .i64 x :: r := by
        have key : ∀ (cs : List V) (j : Nat), shI cs = true → j < cs.length → ∃ x : Int, (cs.map fun x => match x with | .int _ n => n | _ => 0).getD j 0 = x ∧ ∃ r, cs.drop j = .int .i64 x :: r := by
          intro cs
          induction cs with
          | nil => intro j _ h; simp at h
          | cons y r ih =>
            intro j hs hj
            unfold shI at hs
            split at hs
            · cases ‹y :: r = []›
            · rename_i n r' heq
              cases heq
              cases j with
              | zero => exact ⟨n, rfl, r, rfl⟩
              | succ j => exact ih j hs (by simpa using hj)
            · cases hs
        exact key cs i.toNat hsh hi
      obtain ⟨r, hdr⟩ := hdr
      have e1 := x36_a cs cs.length i m
      rw [decide_eq_false h1, decide_eq_false h2] at e1
      refine wpA_run (ok7 0) e1 ?_
      · have hcall : callA E 7 [.int .i64 x, .int .i64 m] [] (.int .i64 (around x m)) [] :=
          fnX_ans (on_nil (sp 0)) rfl (by kernel_rfl) rfl (n := 20) (fn := c7) (p7 hm) _ _ [] rfl
        refine wpA_seq (wpA_reg ?_)
        refine wpR_op (fun _ => rfl) (wpR_op (fun _ => rfl) (wpR_op (fun _ => rule_ia_isl (sz := 1) rfl rfl (by omega) (by omega) (by omega)) (wpR_op (v := .int .i64 x) (h1 := []) (fun _ => ?_) (wpR_op (fun _ => rfl) (wpR_opA (v := .int .i64 (around x m)) (h1 := []) (op_call hcall) (wpR_op (fun _ => rfl) (wpR_nil ?_)))))))
        · show ((Am.fst none (cs.drop (i.toNat * 1))).map _) = _
          rw [Nat.mul_one, hdr]
          rfl
        · refine wpA_ret ⟨.inr rfl, _, rfl, ?_⟩
          unfold pick
          rw [if_neg h1, hd, if_neg h2, hx]
          exact frz_int _ _ _

theorem a36 (as : List V) (r : Tr) (v : V) (e : s36 as = some r) (q : runTr r some = some v) : Ans E 36 as v := by
  unfold s36 at e
  split at e
  · rename_i l i m
    cases e
    obtain ⟨h, q⟩ := need_some q
    cases is_some q
    simp only [Bool.and_eq_true] at h
    obtain ⟨ho, hm⟩ := h
    unfold okI at ho
    split at ho
    · refine fnX_ans (ok7 0) rfl (by kernel_rfl) rfl (n := 20) (fn := c36) ?_
      rw [x36_n]
      unfold pick decI
      simp only [Bool.cond_eq_ite, decide_eq_true_eq, Bool.and_true, bne_t, bne_f, beq_iff_eq, gt_iff_lt, cmpI_lt, cmpI_eq, Bool.and_eq_true, Bool.or_eq_true, Bool.not_eq_true', decide_eq_false_iff_not, beq_eq_false_iff_ne, ne_eq, eq_self, true_and, and_true, not_true_eq_false, not_false_eq_true, if_true, if_false, Bool.or_eq_false_iff, not_or, not_and, List.length_nil, ge_iff_le, Int.ofNat_zero]
      repeat' (refine iteE (fun _ => ?_) (fun _ => ?_))
      all_goals first | (exfalso; omega) | (simp only [*, if_true, if_false]; done) | simp_all
    · rename_i cs len
      simp only [Bool.and_eq_true, beq_iff_eq] at ho
      obtain ⟨hsh, rfl⟩ := ho
      exact p36 hsh hm
    · cases ho
  · cases e

end Ea
end Go.Proofs
