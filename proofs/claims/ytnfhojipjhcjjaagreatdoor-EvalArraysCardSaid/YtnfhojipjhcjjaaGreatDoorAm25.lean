/-
  THE TOP: a call that the evaluator carries out, from a world as it lies. Conditions: as the lemma names them.
-/
import Derived.Test.YtnfhojipjhcjjaaGreatDoorAm24
import Derived.Below
namespace Go.Am
set_option autoImplicit false
set_option linter.unusedVariables false
set_option linter.unusedSimpArgs false

/-- A world as the state of a call that has made nothing yet. -/
def St.init (w : World) : St := { F := fun _ => False, G := fun _ => none, M := fun _ => none, w := w }

theorem init_rd (w : World) : (St.init w).rd = fun g => w.heap[g]? := by
  funext g
  have : ¬ (St.init w).wr g := by
    rintro (h | ⟨_, _, h, _⟩)
    · exact h
    · cases h
  unfold St.rd
  rw [if_neg this]
  rfl

theorem top {P : Program} {gl : Nat → Option (List V)} {E : Env} (hE : EnvOK P gl E) {w : World} (hgl : ∀ g cs, gl g = some cs → CRel (fun g => w.heap[g]?) (.imm cs) (.pointer (some ⟨g, 0, none⟩)))
    {n : Nat} {f : FuncId} {args : List V} {argsV : Array Value} {b : Bool} {h' : H} (hni : E.inl f = false) (he : callE E n f args [] = some (.bool b, h')) (hl : args.length = argsV.size)
    (hr : ∀ (i : Nat) (x : V) (y : Value), args[i]? = some x → argsV[i]? = some y → CRel (fun g => w.heap[g]?) x y) :
    Calls P f argsV w fun e w' => e = .returned (.bool b) ∧ Go.RowKit.Below w.heap.size w w' := by
  have hI : Inv gl (St.init w) := ⟨fun _ _ _ _ h => (by cases h), fun _ _ _ _ _ h => (by cases h), fun _ _ h => (by cases h), fun _ _ _ _ h => (by cases h), fun _ _ h => (by cases h), fun g h => h.elim, fun g cs h => (by rw [init_rd]; exact hgl g cs h)⟩
  have hok := callE_ok hE n
  obtain ⟨as, is, hf, hm⟩ := hok.iso f args [] _ h' hni he
  have his : is = [] := by
    cases is with
    | nil => rfl
    | cons i is => have := frzs_lt hf i (by simp); simp at this
  subst his
  have hp : Pre (St.init w) [] h' ([], []) := ⟨fun id h => (by cases h), fun id h => (by cases h), fun id _ _ => ⟨rfl, rfl⟩⟩
  refine Calls.mono (hok.isoOK f args [] _ h' argsV (St.init w) as [] hni he hf hI hl (fun i x y a b => .cl _ _ (by rw [init_rd]; exact hr i x y a b)) hp) fun e w' ⟨s', c, ee, ew, hpost⟩ => ?_
  subst ew
  have hrdm := hpost.ext.rdm
  rw [init_rd] at hrdm
  have hc := vr_bool hpost.vr
  subst hc
  refine ⟨ee, hpost.ext.os, hpost.ext.tape, hpost.ext.out, hpost.ext.size, fun g hg => ?_⟩
  have := hrdm g w.heap[g] (Array.getElem?_eq_getElem hg)
  exact (St.rd_some.1 this).2.trans (Array.getElem?_eq_getElem hg).symm
end Go.Am
