/-
  ONE OPERATION OF THE MACHINE DOES WHAT THE EVALUATOR SAYS, FIRST PART: the words of memory, and operations that leave memory as it is. Conditions: as each lemma names them.
-/
import Derived.Test.YtnfhojipjhcjjaaGreatDoorAm3
namespace Go.Am
set_option autoImplicit false
set_option linter.unusedVariables false
set_option linter.unusedSimpArgs false

/-! ### Values, read backwards -/
section
variable {rd : Nat → Option Obj} {M : Nat → Option Loc} {D : Nat → Prop}

theorem vr_bool {b : Bool} {c : Value} (h : VRel rd M D (.bool b) c) : c = .bool b := by
  cases h with | cl _ _ h => cases h; rfl
theorem vr_int {k : IntKind} {n : Int} {c : Value} (h : VRel rd M D (.int k n) c) : c = .int k n := by
  cases h with | cl _ _ h => cases h; rfl
theorem vr_str {l : List UInt8} {c : Value} (h : VRel rd M D (.str l) c) : ∃ s : ByteArray, c = .string s ∧ s.data.toList = l := by
  cases h with | cl _ _ h => cases h with | str _ s h => exact ⟨s, rfl, h⟩
theorem vr_agg {cs : List V} {c : Value} (h : VRel rd M D (.agg cs) c) : ∃ arr : Array Value, c = .agg arr ∧ cs.length = arr.size ∧ ∀ (i : Nat) (x : V) (y : Value), cs[i]? = some x → arr[i]? = some y → VRel rd M D x y := by
  cases h with
  | cl _ _ h => cases h with | agg _ arr hn hr => exact ⟨arr, rfl, hn, fun i x y a b => .cl _ _ (hr i x y a b)⟩
  | agg _ arr hn hr => exact ⟨arr, rfl, hn, hr⟩
theorem vr_tup {cs : List V} {c : Value} (h : VRel rd M D (.tup cs) c) : ∃ arr : Array Value, c = .tuple arr ∧ cs.length = arr.size ∧ ∀ (i : Nat) (x : V) (y : Value), cs[i]? = some x → arr[i]? = some y → VRel rd M D x y := by
  cases h with
  | cl _ _ h => cases h with | tup _ arr hn hr => exact ⟨arr, rfl, hn, fun i x y a b => .cl _ _ (hr i x y a b)⟩
  | tup _ arr hn hr => exact ⟨arr, rfl, hn, hr⟩
theorem vr_fn {f : FuncId} {cs : List V} {c : Value} (h : VRel rd M D (.fn f cs) c) : ∃ arr : Array Value, c = .func (.func f) #[] arr ∧ cs.length = arr.size ∧ ∀ (i : Nat) (x : V) (y : Value), cs[i]? = some x → arr[i]? = some y → VRel rd M D x y := by
  cases h with
  | cl _ _ h => cases h with | fn _ _ arr hn hr => exact ⟨arr, rfl, hn, fun i x y a b => .cl _ _ (hr i x y a b)⟩
  | fn _ _ arr hn hr => exact ⟨arr, rfl, hn, hr⟩
theorem vr_und {c : Value} (h : VRel rd M D .und c) : c = undef := by
  cases h with | cl _ _ h => cases h; rfl
theorem vr_nils {c : Value} (h : VRel rd M D .nils c) : c = .slice none 0 0 := by
  cases h with | cl _ _ h => cases h; rfl
theorem vr_nilm {c : Value} (h : VRel rd M D .nilm c) : c = .map none := by
  cases h with | cl _ _ h => cases h; rfl
theorem vr_nilf {c : Value} (h : VRel rd M D .nilf c) : c = .nilFunc := by
  cases h with | cl _ _ h => cases h; rfl
theorem vr_imm {cs : List V} {c : Value} (h : VRel rd M D (.imm cs) c) : ∃ g off arr e fr, c = .pointer (some ⟨g, off, none⟩) ∧ rd g = some (.cells arr e fr) ∧ (∀ i, i < cs.length → off + i < arr.size) ∧
    ∀ (i : Nat) (x : V) (y : Value), cs[i]? = some x → arr[off + i]? = some y → CRel rd x y := by
  cases h with | cl _ _ h => cases h with | imm _ g off arr e fr hg hl hr => exact ⟨g, off, arr, e, fr, rfl, hg, hl, hr⟩
theorem vr_own {id off : Nat} {c : Value} (h : VRel rd M D (.own id off) c) : (∃ l, M id = some l ∧ c = .pointer (some ⟨l.g, l.b + off, none⟩)) ∨ (D id ∧ ∃ a, c = .pointer (some a) ∧ a.spot = none) := by
  cases h with
  | cl _ _ h => cases h
  | own _ _ l h => exact .inl ⟨l, h, rfl⟩
  | ownD _ _ a h ha => exact .inr ⟨h, a, rfl, ha⟩
theorem vr_osl {id off len sz lo : Nat} {ex : Bool} {c : Value} (h : VRel rd M D (.osl id off len sz lo ex) c) :
    (∃ l cc, M id = some l ∧ c = .slice (some ⟨l.g, l.b + off, none⟩) len cc ∧ lo ≤ cc ∧ len ≤ lo ∧ (ex = true → cc = lo) ∧ l.b + off + cc * sz ≤ l.x) ∨ (D id ∧ ∃ a cc, c = .slice (some a) len cc ∧ a.spot = none ∧ lo ≤ cc ∧ len ≤ lo ∧ (ex = true → cc = lo)) := by
  cases h with
  | cl _ _ h => cases h
  | osl _ _ _ _ _ _ cc l h hlo hlen hex hb => exact .inl ⟨l, cc, h, rfl, hlo, hlen, hex, hb⟩
  | oslD _ _ _ _ _ _ a cc h ha hlo hlen hex => exact .inr ⟨h, a, cc, rfl, ha, hlo, hlen, hex⟩
theorem vr_isl {cs : List V} {len : Nat} {ex : Option Nat} {c : Value} (h : VRel rd M D (.isl cs len ex) c) :
    (cs = [] ∧ len = 0 ∧ ∃ (a : Addr) (cc : Nat), c = .slice (some a) 0 cc ∧ ∀ n, ex = some n → cc = n) ∨
    ∃ g off arr e fr cc, c = .slice (some ⟨g, off, none⟩) len cc ∧ len ≤ cc ∧ (∀ n, ex = some n → cc = n) ∧ rd g = some (.cells arr e fr) ∧ (∀ i, i < cs.length → off + i < arr.size) ∧
      ∀ (i : Nat) (x : V) (y : Value), cs[i]? = some x → arr[off + i]? = some y → CRel rd x y := by
  cases h with
  | cl _ _ h => cases h with
    | isl0 _ a cc hex => exact .inl ⟨rfl, rfl, a, cc, rfl, hex⟩
    | isl _ _ _ cc g off arr e fr hc hex hg hl hr => exact .inr ⟨g, off, arr, e, fr, cc, rfl, hc, hex, hg, hl, hr⟩
theorem vr_omap {id : Nat} {c : Value} (h : VRel rd M D (.omap id) c) : (∃ l, M id = some l ∧ c = .map (some l.g)) ∨ (D id ∧ ∃ g, c = .map (some g)) := by
  cases h with
  | cl _ _ h => cases h
  | omap _ l h => exact .inl ⟨l, h, rfl⟩
  | omapD _ g h => exact .inr ⟨h, g, rfl⟩
theorem vr_imap {ks vs : List V} {c : Value} (h : VRel rd M D (.imap ks vs) c) : ∃ g es k, c = .map (some g) ∧ rd g = some (.map es k) ∧ es.size = ks.length ∧ ks.length = vs.length ∧
    (∀ (i : Nat) (x : V) (e : MapEntry), ks[i]? = some x → es[i]? = some e → CRel rd x e.key) ∧ (∀ (i : Nat) (x : V) (e : MapEntry), vs[i]? = some x → es[i]? = some e → CRel rd x e.val) := by
  cases h with | cl _ _ h => cases h with | imap _ _ g es k hg hn hv hk hx => exact ⟨g, es, k, rfl, hg, hn, hv, hk, hx⟩

/-- The value of one cell, on both sides. -/
theorem one_of {v : V} {c : Value} (h : VRel rd M D v c) : c.oneCell' = v.one ∨ v = .und := by
  cases h with
  | cl _ _ h => cases h <;> first | exact .inl rfl | exact .inr rfl
  | _ => exact .inl rfl

theorem one_rel {v : V} {c : Value} (h : VRel rd M D v c) (h1 : v.one = true) (hu : v ≠ .und) : c.oneCell' = true := by
  rcases one_of h with e | e
  · rw [e, h1]
  · exact absurd e hu

theorem cells_rel {v : V} {c : Value} (h : VRel rd M D v c) : v.cells.length = c.cells.size ∧ ∀ (i : Nat) (x : V) (y : Value), v.cells[i]? = some x → c.cells[i]? = some y → VRel rd M D x y := by
  have one : ∀ (v : V) (c : Value), VRel rd M D v c → v.cells = [v] → c.cells = #[c] → v.cells.length = c.cells.size ∧ ∀ (i : Nat) (x : V) (y : Value), v.cells[i]? = some x → c.cells[i]? = some y → VRel rd M D x y := by
    intro v c h e1 e2
    rw [e1, e2]
    refine ⟨rfl, fun i x y a b => ?_⟩
    cases i with
    | zero => simp at a b; subst a b; exact h
    | succ i => simp at a
  cases hv : v with
  | agg cs =>
    subst hv
    obtain ⟨arr, rfl, hn, hr⟩ := vr_agg h
    exact ⟨hn, hr⟩
  | _ =>
    rw [← hv]
    refine one v c h (by rw [hv]; rfl) ?_
    subst hv
    cases h with
    | cl _ _ h => cases h <;> rfl
    | _ => rfl
end

/-! ### The words of the machine -/
section
variable {P : Program} {w : World}

theorem r_und {t : TypeId} {d : TypeDesc} (h : P.underlying t = some d) : (underlying t).run P w = .ok d w := by simp [underlying, h]
theorem r_info {t : TypeId} {i : TypeInfo} (h : P.info? t = some i) : (typeInfo t).run P w = .ok i w := by simp [typeInfo, h]
theorem r_size {t : TypeId} {n : Nat} (h : sizeB P t = some n) : (sizeOf t).run P w = .ok n w := by
  unfold sizeB at h
  rw [Option.map_eq_some_iff] at h
  obtain ⟨i, h1, rfl⟩ := h
  simp [sizeOf, r_info h1]
theorem r_isAgg {t : TypeId} {b : Bool} (h : isAggB P t = some b) : (isAgg t).run P w = .ok b w := by
  unfold isAggB at h
  split at h
  · injection h with h; subst h; rename_i hu; simp [isAgg, r_und hu]
  · injection h with h; subst h; rename_i hu; simp [isAgg, r_und hu]
  · rename_i d h1 h2 hu
    injection h with h; subst h
    simp only [isAgg, Sem.run_bind, r_und hu, Result.andThen_ok]
    rfl
  · cases h

theorem add_plain (g o j : Nat) : (⟨g, o, none⟩ : Addr).add j = ⟨g, o + j, none⟩ := by
  unfold Addr.add; split <;> simp_all

theorem cell_of {g o : Nat} {arr : Array Value} {e : TypeId} {fr : Nat × Nat} (h : w.heap[g]? = some (.cells arr e fr)) : w.cell? ⟨g, o, none⟩ = arr[o]? := by
  simp [World.cell?, h]

theorem frozen_of {g o : Nat} {arr : Array Value} {e : TypeId} (h : w.heap[g]? = some (.cells arr e (0, 0))) : w.frozen? ⟨g, o, none⟩ = false := by
  simp [World.frozen?, h]

theorem r_load {g o : Nat} {arr : Array Value} {e : TypeId} {fr : Nat × Nat} (h : w.heap[g]? = some (.cells arr e fr)) {v : Value} (hv : arr[o]? = some v) : (load ⟨g, o, none⟩).run P w = .ok v w := by
  simp [run_load, cell_of h, hv]

theorem r_loadFrom {g o : Nat} {arr : Array Value} {e : TypeId} {fr : Nat × Nat} (h : w.heap[g]? = some (.cells arr e fr)) : ∀ (n i : Nat) (acc : Array Value), o + i + n ≤ arr.size →
    (loadCellsFrom ⟨g, o, none⟩ i n acc).run P w = .ok (acc ++ arr.extract (o + i) (o + i + n)) w
  | 0, i, acc, h0 => by simp [loadCellsFrom]; omega
  | n + 1, i, acc, hn => by
    have hlt : o + i < arr.size := by omega
    simp only [loadCellsFrom, Sem.run_bind, add_plain, r_load h (Array.getElem?_eq_getElem hlt), Result.andThen_ok]
    rw [r_loadFrom h n (i + 1) _ (by omega)]
    congr 1
    apply Array.ext'
    have hs : (arr.extract (o + i) (o + i + (n + 1))).toList = arr[o + i] :: (arr.extract (o + (i + 1)) (o + (i + 1) + n)).toList := by
      simp only [Array.toList_extract, List.extract_eq_take_drop]
      rw [show o + i + (n + 1) - (o + i) = n + 1 from by omega, show o + (i + 1) + n - (o + (i + 1)) = n from by omega]
      rw [List.drop_eq_getElem_cons (by simpa using hlt), List.take_succ_cons]
      simp [Nat.add_assoc]
    simp only [Array.toList_append, Array.toList_push, List.append_assoc, hs, List.singleton_append]

theorem r_loadCells {g o n : Nat} {arr : Array Value} {e : TypeId} {fr : Nat × Nat} (h : w.heap[g]? = some (.cells arr e fr)) (hn : o + n ≤ arr.size) :
    (loadCells ⟨g, o, none⟩ n).run P w = .ok (arr.extract o (o + n)) w := by
  unfold loadCells
  rw [r_loadFrom h n 0 #[] (by omega)]
  simp

/-- Cells stored one behind the other. -/
theorem r_storeCells {g o : Nat} {e : TypeId} : ∀ (vs : List Value) (i : Nat) (arr : Array Value) (w : World), w.heap[g]? = some (.cells arr e (0, 0)) → (∀ v ∈ vs, v.oneCell' = true) → o + i + vs.length ≤ arr.size →
    ∃ w' arr', (storeCells ⟨g, o, none⟩ vs i).run P w = .ok () w' ∧ w'.heap[g]? = some (.cells arr' e (0, 0)) ∧ arr'.size = arr.size ∧
      (∀ j, arr'[j]? = if o + i ≤ j ∧ j < o + i + vs.length then vs[j - (o + i)]? else arr[j]?) ∧
      w'.os = w.os ∧ w'.tape = w.tape ∧ w'.output = w.output ∧ w'.heap.size = w.heap.size ∧ ∀ k, k ≠ g → w'.heap[k]? = w.heap[k]?
  | [], i, arr, w, h, _, _ => ⟨w, arr, by simp [storeCells], h, rfl, fun j => by rw [if_neg (by simp)], rfl, rfl, rfl, rfl, fun _ _ => rfl⟩
  | v :: vs, i, arr, w, h, h1, hn => by
    have hlt : o + i < arr.size := by simp at hn; omega
    have hgl := (Array.getElem?_eq_some_iff.1 h).1
    have hset : (w.setCell ⟨g, o + i, none⟩ v).heap[g]? = some (.cells (arr.setIfInBounds (o + i) v) e (0, 0)) := by
      simp only [World.setCell, Array.getElem?_modify, if_true, h, Option.map_some, Option.isSome_none, Bool.false_eq_true, if_false]
    have hlen : o + (i + 1) + vs.length ≤ (arr.setIfInBounds (o + i) v).size := by simp at hn ⊢; omega
    obtain ⟨w', arr', k1, k2, k3, k4, k5, k6, k7, k8, k9⟩ := r_storeCells vs (i + 1) (arr.setIfInBounds (o + i) v) (w.setCell ⟨g, o + i, none⟩ v) hset (fun x hx => h1 x (by simp [hx])) hlen
    refine ⟨w', arr', ?_, k2, by simpa using k3, fun j => ?_, by rw [k5]; rfl, by rw [k6]; rfl, by rw [k7]; rfl, by rw [k8]; simp, fun k hk => ?_⟩
    · have hst : (Go.store ⟨g, o + i, none⟩ v).run P w = .ok () (w.setCell ⟨g, o + i, none⟩ v) := by
        rw [run_store P w _ v .plain (h1 v (by simp)), cell_of h, Array.getElem?_eq_getElem hlt]
        simp [frozen_of h]
      simp only [storeCells, Sem.run_bind, add_plain, hst, Result.andThen_ok]
      exact k1
    · rw [k4 j]
      by_cases c1 : j = o + i
      · subst c1
        rw [if_neg (by omega), if_pos (by simp)]
        simp [hlt]
      · rw [Array.getElem?_setIfInBounds_ne (by omega)]
        by_cases c2 : o + (i + 1) ≤ j ∧ j < o + (i + 1) + vs.length
        · rw [if_pos c2, if_pos (by simp; omega), show j - (o + i) = (j - (o + (i + 1))) + 1 from by omega, List.getElem?_cons_succ]
        · rw [if_neg c2, if_neg (by simp; omega)]
    · rw [k9 k hk]
      simp only [World.setCell, Array.getElem?_modify]
      rw [if_neg (fun hc => hk hc.symm)]
end

end Go.Am
