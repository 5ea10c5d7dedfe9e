/-
  ONE OPERATION OF THE MACHINE DOES WHAT THE EVALUATOR SAYS, SECOND PART: operations that leave memory as it is. Conditions: as each lemma names them.
-/
import Derived.Test.YtnfhojipjhcjjaaGreatDoorAm4
namespace Go.Am
set_option autoImplicit false
set_option linter.unusedVariables false
set_option linter.unusedSimpArgs false

open Classical in
/-- The objects behind a step that the list tells. -/
noncomputable def upd (G : Nat → Option Ob) (h h' : H) : Nat → Option Ob := fun id => if h'[id]? = h[id]? then G id else h'[id]?

theorem upd_same (G : Nat → Option Ob) (h : H) : upd G h h = G := by funext id; simp [upd]

structure Post (gl : Nat → Option (List V)) (s : St) (h h' : H) (v : V) (s' : St) (c : Value) : Prop where
  inv : Inv gl s'
  ext : Ext s s'
  vr : s'.vr v c
  G : s'.G = upd s.G h h'
  M : ∀ id l, s'.M id = some l → s.M id = some l ∨ (h.length ≤ id ∧ id < h'.length)

def OkOp (gl : Nat → Option (List V)) (s : St) (h h' : H) (v : V) (r : Result Next) : Prop :=
  ∃ s' c nx, r = .ok nx s'.w ∧ (nx = .value c ∨ (nx = .skip ∧ c = undef)) ∧ Post gl s h h' v s' c

structure Pre (s : St) (h h' : H) (fp : List Nat × List Nat) : Prop where
  r : ∀ id ∈ fp.1, s.G id ≠ none → (s.G id).map Ob.frozen = (h[id]?).map Ob.frozen
  w : ∀ id ∈ fp.2, s.G id ≠ none → s.G id = h[id]?
  n : ∀ id, h.length ≤ id → id < h'.length → s.M id = none ∧ s.G id = none

theorem ok_pure {gl : Nat → Option (List V)} {s : St} {h : H} {v : V} {r : Result Next} {c : Value} (hI : Inv gl s) (hr : r = .ok (.value c) s.w) (hv : s.vr v c) : OkOp gl s h h v r :=
  ⟨s, c, _, hr, .inl rfl, hI, Ext.refl s, hv, (upd_same _ _).symm, fun _ _ h => .inl h⟩

section
variable {P : Program} {gl : Nat → Option (List V)} {inl : FuncId → Bool} {call : CallF} {s : St} {h h' : H} {t : T} {v : V} {o : O} {oper : Oper} {ρ : Operand → Value} {iso : Bool}

/-- What is known of an object that a value leads to. -/
theorem agr_blk {id : Nat} {l : Loc} {m : Bool} {cs : List V} (hI : Inv gl s) (hM : s.M id = some l) (ha : s.G id ≠ none → (s.G id).map Ob.frozen = (h[id]?).map Ob.frozen) (hh : h[id]? = some (.blk m cs)) :
    ∃ m' arr e fr, s.G id = some (.blk m' cs) ∧ s.w.heap[l.g]? = some (.cells arr e fr) ∧ arr.size = l.x ∧ l.b + cs.length ≤ l.x ∧ ∀ (i : Nat) (x : V) (y : Value), cs[i]? = some x → arr[l.b + i]? = some y → s.vr x y := by
  obtain ⟨x, hx, hd⟩ := hI.has id l hM
  have h1 := ha (by rw [hx]; simp)
  rw [hh] at h1
  obtain ⟨_, m', h2⟩ := frozen_blk h1
  obtain ⟨arr, e, fr, k1, k2, k3, k4, k5⟩ := hI.blk id l m' cs hM h2
  exact ⟨m', arr, e, fr, h2, k1, k2, k3, k5⟩

theorem agr_map {id : Nat} {l : Loc} {m : Bool} {ks vs : List V} (hI : Inv gl s) (hM : s.M id = some l) (ha : s.G id ≠ none → (s.G id).map Ob.frozen = (h[id]?).map Ob.frozen) (hh : h[id]? = some (.map m ks vs)) :
    ∃ m' es k, s.G id = some (.map m' ks vs) ∧ s.w.heap[l.g]? = some (.map es k) ∧ es.size = ks.length ∧ ks.length = vs.length ∧
      (∀ (i : Nat) (x : V) (e : MapEntry), ks[i]? = some x → es[i]? = some e → s.vr x e.key) ∧ (∀ (i : Nat) (x : V) (e : MapEntry), vs[i]? = some x → es[i]? = some e → s.vr x e.val) := by
  obtain ⟨x, hx, hd⟩ := hI.has id l hM
  have h1 := ha (by rw [hx]; simp)
  rw [hh] at h1
  obtain ⟨_, m', h2⟩ := frozen_map h1
  obtain ⟨es, k, k1⟩ := hI.map id l m' ks vs hM h2
  exact ⟨m', es, k, h2, k1⟩

theorem agr_dead {id : Nat} {x : Ob} (hd : s.dead id) (ha : s.G id ≠ none → (s.G id).map Ob.frozen = (h[id]?).map Ob.frozen) (hh : h[id]? = some x) : x = .dead := by
  have h1 := ha (by rw [hd]; simp)
  rw [hd, hh] at h1
  have : (some x).map Ob.frozen = some Ob.dead := h1.symm
  rw [frozen_dead] at this
  exact Option.some.inj this

/-- A pointer's cells, as they lie. -/
theorem rdc_ok {p : V} {c : Value} {cs : List V} (hI : Inv gl s) (hp : s.vr p c) (ha : ∀ id off, p = .own id off → s.G id ≠ none → (s.G id).map Ob.frozen = (h[id]?).map Ob.frozen) (hr : rdc h p = some cs) :
    cs = [] ∨ ∃ g off arr e fr, c = .pointer (some ⟨g, off, none⟩) ∧ s.w.heap[g]? = some (.cells arr e fr) ∧ off + cs.length ≤ arr.size ∧ ∀ (i : Nat) (x : V) (y : Value), cs[i]? = some x → arr[off + i]? = some y → s.vr x y := by
  cases p with
  | imm ds =>
    simp only [rdc, Option.some.injEq] at hr
    subst hr
    obtain ⟨g, off, arr, e, fr, rfl, hg, hl, hr⟩ := vr_imm hp
    by_cases hz : ds = []
    · exact .inl hz
    · refine .inr ⟨g, off, arr, e, fr, rfl, (St.rd_some.1 hg).2, ?_, fun i x y a b => .cl _ _ (hr i x y a b)⟩
      have hpos : 0 < ds.length := List.length_pos_iff.2 hz
      have := hl (ds.length - 1) (by omega)
      omega
  | own id off =>
    simp only [rdc] at hr
    split at hr
    · rename_i m ds hh
      injection hr with hr; subst hr
      rcases vr_own hp with ⟨l, hM, rfl⟩ | ⟨hd, _⟩
      · obtain ⟨m', arr, e, fr, k1, k2, k3, k4, k5⟩ := agr_blk hI hM (ha id off rfl) hh
        by_cases hlt : off < ds.length
        · refine .inr ⟨l.g, l.b + off, arr, e, fr, rfl, k2, by simp; omega, fun i x y a b => k5 (off + i) x y (by simpa using a) (by rw [← Nat.add_assoc]; exact b)⟩
        · exact .inl (List.drop_eq_nil_of_le (by omega))
      · have := agr_dead hd (ha id off rfl) hh; cases this
    · cases hr
  | _ => simp [rdc] at hr

theorem ptr_of {p : V} {c : Value} {cs : List V} (hp : s.vr p c) (hr : rdc h p = some cs) : ∃ a, c = .pointer (some a) := by
  cases p with
  | imm ds => obtain ⟨g, off, arr, e, fr, rfl, _⟩ := vr_imm hp; exact ⟨_, rfl⟩
  | own id off => rcases vr_own hp with ⟨l, _, rfl⟩ | ⟨_, a, rfl, _⟩ <;> exact ⟨_, rfl⟩
  | _ => simp [rdc] at hr

/-- A variable is read. -/
theorem load_ok {ty : TypeId} {n : Option Nat} {p : V} {c : Value} {cs : List V} (hI : Inv gl s) (hp : s.vr p c) (ha : ∀ id off, p = .own id off → s.G id ≠ none → (s.G id).map Ob.frozen = (h[id]?).map Ob.frozen)
    (hr : rdc h p = some cs) (hw : how P ty = some n) (hf : fst n cs = some v) :
    ∃ d, (Instr.loadAt ty c).run P s.w = .ok d s.w ∧ s.vr v d := by
  obtain ⟨a, rfl⟩ : ∃ a, c = .pointer (some a) := ptr_of hp hr
  unfold how at hw
  split at hw
  · rename_i n1 hag hsz
    injection hw with hw; subst hw
    simp only [fst] at hf
    split at hf
    · rename_i hle
      injection hf with hf; subst hf
      have hrun : ∀ (g off : Nat) (arr : Array Value) (e : TypeId) (fr : Nat × Nat), a = ⟨g, off, none⟩ → s.w.heap[g]? = some (.cells arr e fr) → off + n1 ≤ arr.size →
          (Instr.loadAt ty (.pointer (some a))).run P s.w = .ok (.agg (arr.extract off (off + n1))) s.w := by
        intro g off arr e fr ha hg hle
        subst ha
        simp only [Instr.loadAt, Instr.sureAddr, loadVar, Sem.run_bind, Sem.run_pure, Result.andThen_ok, r_isAgg hag, if_true, r_size hsz, r_loadCells hg hle]
      rcases rdc_ok hI hp ha hr with rfl | ⟨g, off, arr, e, fr, hc, hg, hle2, hcell⟩
      · -- no cells at all
        simp at hle; subst hle
        refine ⟨.agg #[], ?_, .agg _ _ rfl (fun i x y a => by simp at a)⟩
        simp only [Instr.loadAt, Instr.sureAddr, loadVar, Sem.run_bind, Sem.run_pure, Result.andThen_ok, r_isAgg hag, if_true, r_size hsz, loadCells, loadCellsFrom]
      · injection hc with hc; injection hc with hc
        refine ⟨_, hrun g off arr e fr hc hg (by omega), .agg _ _ (by simp; omega) (fun i x y a b => ?_)⟩
        have hi : i < n1 := by
          have := (List.getElem?_eq_some_iff.1 a).1
          simp at this; omega
        refine hcell i x y (by rw [List.getElem?_take] at a; simpa [hi] using a) ?_
        rw [Array.getElem?_extract] at b
        split at b
        · exact b
        · cases b
    · cases hf
  · rename_i n1 hag hsz
    injection hw with hw; subst hw
    simp only [fst] at hf
    rcases rdc_ok hI hp ha hr with rfl | ⟨g, off, arr, e, fr, hc, hg, hle2, hcell⟩
    · cases hf
    · injection hc with hc; injection hc with hc
      subst hc
      have hlen : 0 < cs.length := by cases cs with | nil => cases hf | cons a b => simp
      have hlt : off < arr.size := by omega
      refine ⟨arr[off], ?_, hcell 0 v _ (by rw [← List.head?_eq_getElem?]; exact hf) (by rw [Nat.add_zero]; exact Array.getElem?_eq_getElem hlt)⟩
      simp only [Instr.loadAt, Instr.sureAddr, loadVar, Sem.run_bind, Sem.run_pure, Result.andThen_ok, r_isAgg hag, Bool.false_eq_true, if_false]
      exact r_load hg (Array.getElem?_eq_getElem hlt)
  · cases hw

end

end Go.Am
