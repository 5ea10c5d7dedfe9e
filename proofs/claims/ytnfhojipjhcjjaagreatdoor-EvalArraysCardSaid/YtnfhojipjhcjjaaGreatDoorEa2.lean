/-
  THE CODES ARE THE PROGRAM'S. Conditions: none.
-/
import Derived.Test.YtnfhojipjhcjjaaGreatDoorEa1
import Derived.Test.YtnfhojipjhcjjaaGreatDoorProg
import Derived.KernelRfl
namespace Go.Proofs
namespace Ea
open Go.Am
set_option autoImplicit false
set_option linter.unusedVariables false
set_option maxRecDepth 100000

noncomputable def chk (m : Int) (f : FuncId) : Option Am.Fn := (Tryz.prog.funcs[f]?).bind fun fn => if (fn.name == "runtime.NumGoroutine" || !fn.body.isSome) = true then none else compFn Tryz.prog (gl m) inl fn
theorem e5 (m : Int) : chk m 5 = some c5 := by kernel_rfl
theorem e7 (m : Int) : chk m 7 = some c7 := by kernel_rfl
theorem e8 (m : Int) : chk m 8 = some c8 := by kernel_rfl
theorem e12 (m : Int) : chk m 12 = some c12 := by kernel_rfl
theorem e17 (m : Int) : chk m 17 = some c17 := by kernel_rfl
theorem e18 (m : Int) : chk m 18 = some c18 := by kernel_rfl
theorem e19 (m : Int) : chk m 19 = some c19 := by kernel_rfl
theorem e21 (m : Int) : chk m 21 = some c21 := by kernel_rfl
theorem e22 (m : Int) : chk m 22 = some c22 := by kernel_rfl
theorem e26 (m : Int) : chk m 26 = some c26 := by kernel_rfl
theorem e27 (m : Int) : chk m 27 = some c27 := by kernel_rfl
theorem e28 (m : Int) : chk m 28 = some c28 := by kernel_rfl
theorem e29 (m : Int) : chk m 29 = some c29 := by kernel_rfl
theorem e30 (m : Int) : chk m 30 = some c30 := by kernel_rfl
theorem e36 (m : Int) : chk m 36 = some c36 := by kernel_rfl
theorem e37 (m : Int) : chk m 37 = some c37 := by kernel_rfl
theorem e38 (m : Int) : chk m 38 = some c38 := by kernel_rfl
theorem e39 (m : Int) : chk m 39 = some c39 := by kernel_rfl
theorem e40 (m : Int) : chk m 40 = some c40 := by kernel_rfl
theorem e41 (m : Int) : chk m 41 = some c41 := by kernel_rfl
theorem e47 (m : Int) : chk m 47 = some c47 := by kernel_rfl
theorem e58 (m : Int) : chk m 58 = some c58 := by kernel_rfl
theorem e59 (m : Int) : chk m 59 = some c59 := by kernel_rfl
theorem e60 (m : Int) : chk m 60 = some c60 := by kernel_rfl
theorem e61 (m : Int) : chk m 61 = some c61 := by kernel_rfl
theorem e62 (m : Int) : chk m 62 = some c62 := by kernel_rfl
theorem e63 (m : Int) : chk m 63 = some c63 := by kernel_rfl
theorem e64 (m : Int) : chk m 64 = some c64 := by kernel_rfl
theorem e69 (m : Int) : chk m 69 = some c69 := by kernel_rfl
theorem e70 (m : Int) : chk m 70 = some c70 := by kernel_rfl
theorem e71 (m : Int) : chk m 71 = some c71 := by kernel_rfl
theorem e72 (m : Int) : chk m 72 = some c72 := by kernel_rfl
theorem e74 (m : Int) : chk m 74 = some c74 := by kernel_rfl
theorem e75 (m : Int) : chk m 75 = some c75 := by kernel_rfl
theorem e76 (m : Int) : chk m 76 = some c76 := by kernel_rfl
theorem e77 (m : Int) : chk m 77 = some c77 := by kernel_rfl
theorem e120 (m : Int) : chk m 120 = some c120 := by kernel_rfl
theorem e121 (m : Int) : chk m 121 = some c121 := by kernel_rfl
theorem e122 (m : Int) : chk m 122 = some c122 := by kernel_rfl
theorem e125 (m : Int) : chk m 125 = some c125 := by kernel_rfl
theorem e128 (m : Int) : chk m 128 = some c128 := by kernel_rfl
theorem e129 (m : Int) : chk m 129 = some c129 := by kernel_rfl
theorem e130 (m : Int) : chk m 130 = some c130 := by kernel_rfl
theorem e131 (m : Int) : chk m 131 = some c131 := by kernel_rfl
theorem e133 (m : Int) : chk m 133 = some c133 := by kernel_rfl
theorem e138 (m : Int) : chk m 138 = some c138 := by kernel_rfl
theorem e139 (m : Int) : chk m 139 = some c139 := by kernel_rfl
theorem e140 (m : Int) : chk m 140 = some c140 := by kernel_rfl
theorem e141 (m : Int) : chk m 141 = some c141 := by kernel_rfl
theorem e150 (m : Int) : chk m 150 = some c150 := by kernel_rfl
theorem e151 (m : Int) : chk m 151 = some c151 := by kernel_rfl
theorem e152 (m : Int) : chk m 152 = some c152 := by kernel_rfl
theorem e153 (m : Int) : chk m 153 = some c153 := by kernel_rfl
theorem e154 (m : Int) : chk m 154 = some c154 := by kernel_rfl
theorem e155 (m : Int) : chk m 155 = some c155 := by kernel_rfl
theorem e159 (m : Int) : chk m 159 = some c159 := by kernel_rfl
theorem e160 (m : Int) : chk m 160 = some c160 := by kernel_rfl
theorem e162 (m : Int) : chk m 162 = some c162 := by kernel_rfl
theorem e190 (m : Int) : chk m 190 = some c190 := by kernel_rfl
theorem e191 (m : Int) : chk m 191 = some c191 := by kernel_rfl
theorem e192 (m : Int) : chk m 192 = some c192 := by kernel_rfl
theorem e193 (m : Int) : chk m 193 = some c193 := by kernel_rfl
theorem e194 (m : Int) : chk m 194 = some c194 := by kernel_rfl
theorem e195 (m : Int) : chk m 195 = some c195 := by kernel_rfl
theorem e196 (m : Int) : chk m 196 = some c196 := by kernel_rfl
theorem e198 (m : Int) : chk m 198 = some c198 := by kernel_rfl
theorem e199 (m : Int) : chk m 199 = some c199 := by kernel_rfl
theorem e200 (m : Int) : chk m 200 = some c200 := by kernel_rfl
theorem e201 (m : Int) : chk m 201 = some c201 := by kernel_rfl
theorem e202 (m : Int) : chk m 202 = some c202 := by kernel_rfl
theorem e203 (m : Int) : chk m 203 = some c203 := by kernel_rfl
theorem e205 (m : Int) : chk m 205 = some c205 := by kernel_rfl
theorem e206 (m : Int) : chk m 206 = some c206 := by kernel_rfl
theorem e237 (m : Int) : chk m 237 = some c237 := by kernel_rfl
theorem e246 (m : Int) : chk m 246 = some c246 := by kernel_rfl
theorem e247 (m : Int) : chk m 247 = some c247 := by kernel_rfl

theorem all_ok (m : Int) : ∀ p ∈ tbl, chk m p.1 = some p.2 := by
  unfold tbl
  refine List.forall_mem_cons.2 ⟨e5 m, ?_⟩
  refine List.forall_mem_cons.2 ⟨e7 m, ?_⟩
  refine List.forall_mem_cons.2 ⟨e8 m, ?_⟩
  refine List.forall_mem_cons.2 ⟨e12 m, ?_⟩
  refine List.forall_mem_cons.2 ⟨e17 m, ?_⟩
  refine List.forall_mem_cons.2 ⟨e18 m, ?_⟩
  refine List.forall_mem_cons.2 ⟨e19 m, ?_⟩
  refine List.forall_mem_cons.2 ⟨e21 m, ?_⟩
  refine List.forall_mem_cons.2 ⟨e22 m, ?_⟩
  refine List.forall_mem_cons.2 ⟨e26 m, ?_⟩
  refine List.forall_mem_cons.2 ⟨e27 m, ?_⟩
  refine List.forall_mem_cons.2 ⟨e28 m, ?_⟩
  refine List.forall_mem_cons.2 ⟨e29 m, ?_⟩
  refine List.forall_mem_cons.2 ⟨e30 m, ?_⟩
  refine List.forall_mem_cons.2 ⟨e36 m, ?_⟩
  refine List.forall_mem_cons.2 ⟨e37 m, ?_⟩
  refine List.forall_mem_cons.2 ⟨e38 m, ?_⟩
  refine List.forall_mem_cons.2 ⟨e39 m, ?_⟩
  refine List.forall_mem_cons.2 ⟨e40 m, ?_⟩
  refine List.forall_mem_cons.2 ⟨e41 m, ?_⟩
  refine List.forall_mem_cons.2 ⟨e47 m, ?_⟩
  refine List.forall_mem_cons.2 ⟨e58 m, ?_⟩
  refine List.forall_mem_cons.2 ⟨e59 m, ?_⟩
  refine List.forall_mem_cons.2 ⟨e60 m, ?_⟩
  refine List.forall_mem_cons.2 ⟨e61 m, ?_⟩
  refine List.forall_mem_cons.2 ⟨e62 m, ?_⟩
  refine List.forall_mem_cons.2 ⟨e63 m, ?_⟩
  refine List.forall_mem_cons.2 ⟨e64 m, ?_⟩
  refine List.forall_mem_cons.2 ⟨e69 m, ?_⟩
  refine List.forall_mem_cons.2 ⟨e70 m, ?_⟩
  refine List.forall_mem_cons.2 ⟨e71 m, ?_⟩
  refine List.forall_mem_cons.2 ⟨e72 m, ?_⟩
  refine List.forall_mem_cons.2 ⟨e74 m, ?_⟩
  refine List.forall_mem_cons.2 ⟨e75 m, ?_⟩
  refine List.forall_mem_cons.2 ⟨e76 m, ?_⟩
  refine List.forall_mem_cons.2 ⟨e77 m, ?_⟩
  refine List.forall_mem_cons.2 ⟨e120 m, ?_⟩
  refine List.forall_mem_cons.2 ⟨e121 m, ?_⟩
  refine List.forall_mem_cons.2 ⟨e122 m, ?_⟩
  refine List.forall_mem_cons.2 ⟨e125 m, ?_⟩
  refine List.forall_mem_cons.2 ⟨e128 m, ?_⟩
  refine List.forall_mem_cons.2 ⟨e129 m, ?_⟩
  refine List.forall_mem_cons.2 ⟨e130 m, ?_⟩
  refine List.forall_mem_cons.2 ⟨e131 m, ?_⟩
  refine List.forall_mem_cons.2 ⟨e133 m, ?_⟩
  refine List.forall_mem_cons.2 ⟨e138 m, ?_⟩
  refine List.forall_mem_cons.2 ⟨e139 m, ?_⟩
  refine List.forall_mem_cons.2 ⟨e140 m, ?_⟩
  refine List.forall_mem_cons.2 ⟨e141 m, ?_⟩
  refine List.forall_mem_cons.2 ⟨e150 m, ?_⟩
  refine List.forall_mem_cons.2 ⟨e151 m, ?_⟩
  refine List.forall_mem_cons.2 ⟨e152 m, ?_⟩
  refine List.forall_mem_cons.2 ⟨e153 m, ?_⟩
  refine List.forall_mem_cons.2 ⟨e154 m, ?_⟩
  refine List.forall_mem_cons.2 ⟨e155 m, ?_⟩
  refine List.forall_mem_cons.2 ⟨e159 m, ?_⟩
  refine List.forall_mem_cons.2 ⟨e160 m, ?_⟩
  refine List.forall_mem_cons.2 ⟨e162 m, ?_⟩
  refine List.forall_mem_cons.2 ⟨e190 m, ?_⟩
  refine List.forall_mem_cons.2 ⟨e191 m, ?_⟩
  refine List.forall_mem_cons.2 ⟨e192 m, ?_⟩
  refine List.forall_mem_cons.2 ⟨e193 m, ?_⟩
  refine List.forall_mem_cons.2 ⟨e194 m, ?_⟩
  refine List.forall_mem_cons.2 ⟨e195 m, ?_⟩
  refine List.forall_mem_cons.2 ⟨e196 m, ?_⟩
  refine List.forall_mem_cons.2 ⟨e198 m, ?_⟩
  refine List.forall_mem_cons.2 ⟨e199 m, ?_⟩
  refine List.forall_mem_cons.2 ⟨e200 m, ?_⟩
  refine List.forall_mem_cons.2 ⟨e201 m, ?_⟩
  refine List.forall_mem_cons.2 ⟨e202 m, ?_⟩
  refine List.forall_mem_cons.2 ⟨e203 m, ?_⟩
  refine List.forall_mem_cons.2 ⟨e205 m, ?_⟩
  refine List.forall_mem_cons.2 ⟨e206 m, ?_⟩
  refine List.forall_mem_cons.2 ⟨e237 m, ?_⟩
  refine List.forall_mem_cons.2 ⟨e246 m, ?_⟩
  refine List.forall_mem_cons.2 ⟨e247 m, ?_⟩
  intro p hp
  cases hp

theorem look_mem {l : List (FuncId × Am.Fn)} {f : FuncId} {c : Am.Fn} (e : look l f = some c) : (f, c) ∈ l := by
  induction l with
  | nil => cases e
  | cons p r ih =>
    obtain ⟨g, d⟩ := p
    unfold look at e
    split at e
    · rename_i h
      have : f = g := by simpa using h
      subst this
      cases e
      exact List.mem_cons_self
    · exact List.mem_cons_of_mem _ (ih e)

theorem code_ok (m : Int) (f : FuncId) (c : Am.Fn) (e : E.code f = some c) : ∃ fn, Tryz.prog.funcs[f]? = some fn ∧ (fn.name == "runtime.NumGoroutine") = false ∧ fn.body.isSome = true ∧ compFn Tryz.prog (gl m) E.inl fn = some c := by
  have := all_ok m _ (look_mem e)
  unfold chk at this
  obtain ⟨fn, h1, h2⟩ := Option.bind_eq_some_iff.1 this
  split at h2
  · cases h2
  · rename_i h3
    simp only [Bool.or_eq_true, not_or, Bool.not_eq_true, Bool.not_eq_false'] at h3
    exact ⟨fn, h1, h3.1, by simpa using h3.2, h2⟩
end Ea
end Go.Proofs
