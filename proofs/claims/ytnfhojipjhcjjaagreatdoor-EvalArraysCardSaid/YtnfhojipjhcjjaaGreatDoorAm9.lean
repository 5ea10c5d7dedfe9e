/-
  ONE OPERATION OF THE MACHINE DOES WHAT THE EVALUATOR SAYS, SIXTH PART: slicing, look-ups, composites. Conditions: as each lemma names them.
-/
import Derived.Test.YtnfhojipjhcjjaaGreatDoorAm8
namespace Go.Am
set_option autoImplicit false
set_option linter.unusedVariables false
set_option linter.unusedSimpArgs false

section
variable {P : Program} {gl : Nat → Option (List V)} {inl : FuncId → Bool} {call : CallF} {s : St} {h h' : H} {t : T} {v : V} {o : O} {oper : Oper} {ρ : Operand → Value} {iso : Bool}

theorem ok_slc {ty e : TypeId} {x : Operand} {lo hi mx : Option Operand} (hop : oper.op = .slice ty x lo hi mx) (hu : P.underlying ty = some (.slice e)) (hI : Inv gl s) (hev : Hev gl s t o ρ) (hc : compOp P gl iso oper = some o)
    (he : opE inl call o t h = some (v, h')) : OkOp gl s h h' v ((execOp ρ oper).run P s.w) := by
  simp only [compOp, hop, hu] at hc
  split at hc
  · rename_i sz q ql qh qm hsz hx hl hh hm
    split at hc
    · rename_i hcond
      injection hc with hc; subst hc
      obtain ⟨h3, rfl⟩ := map_pair (by simpa only [opE] using he)
      obtain ⟨d, h4, h5⟩ := slc_ok (P := P) (w := s.w) hu hsz (hev x q hx (by simp [O.args])) (opt_ok hl fun y a h1 h2 => hev y a h1 (by simp [O.args] at h2 ⊢; simp [h2])) (opt_ok hh fun y a h1 h2 => hev y a h1 (by simp [O.args] at h2 ⊢; simp [h2]))
        (opt_ok hm fun y a h1 h2 => hev y a h1 (by simp [O.args] at h2 ⊢; simp [h2])) (by
          have hcond2 := hcond.2
          rcases hcond2 with h | h
          · left; cases qm with
            | none => rfl
            | some m => exact absurd h (by first | exact Bool.false_ne_true | simp)
          · right; cases qh with
            | none => exact absurd h (by first | exact Bool.false_ne_true | simp)
            | some m => simp) h3
      refine ok_pure hI ?_ h5
      simp only [execOp, hop, Instr.sliceAt, Sem.run_bind, r_und hu, Result.andThen_ok, h4, Sem.run_pure]
    · cases hc
  · cases hc

theorem ok_sls {ty : TypeId} {x : Operand} {lo hi mx : Option Operand} (hop : oper.op = .slice ty x lo hi mx) (hu : P.underlying ty = some .string) (hI : Inv gl s) (hev : Hev gl s t o ρ) (hc : compOp P gl iso oper = some o)
    (he : opE inl call o t h = some (v, h')) : OkOp gl s h h' v ((execOp ρ oper).run P s.w) := by
  simp only [compOp, hop, hu] at hc
  split at hc
  · rename_i q ql qh hx hl hh
    injection hc with hc; subst hc
    obtain ⟨h3, rfl⟩ := map_pair (by simpa only [opE] using he)
    have hq := hev x q hx (by simp [O.args])
    have hlr := opt_ok (s := s) (t := t) (ρ := ρ) hl fun y a h1 h2 => hev y a h1 (by simp [O.args] at h2 ⊢; simp [h2])
    have hhr := opt_ok (s := s) (t := t) (ρ := ρ) hh fun y a h1 h2 => hev y a h1 (by simp [O.args] at h2 ⊢; simp [h2])
    cases hqv : ev t q <;> rw [hqv] at h3 hq <;> simp only [sls] at h3 <;> try (cases h3; done)
    rename_i l
    split at h3
    · cases h3
    · rename_i u e1
      split at h3
      · cases h3
      · rename_i k e2
        injection h3 with h3; subst h3
        have hle : k ≤ u := by rcases bnd_le e2 with ⟨_, h⟩ | ⟨_, h⟩ <;> omega
        have hul : u ≤ l.length := by rcases bnd_le e1 with ⟨_, h⟩ | ⟨_, h⟩ <;> omega
        have hsz : (ByteArray.mk l.toArray).size = l.length := by simp [ByteArray.size]
        have hsb := sb_run (P := P) (w := s.w) (isS := false) (len := l.length) (cap := l.length) (m := l.length) (mx := none) (fun _ => rfl) (fun c => bnd_ok hhr e1 (Nat.le_refl _) c) (fun c => bnd_ok hlr e2 (Nat.le_refl _) c) (.inl rfl)
        refine ok_pure hI (c := .string ((ByteArray.mk l.toArray).extract k u)) ?_ (.cl _ _ (.str _ _ ?_))
        · simp only [execOp, hop, Instr.sliceAt, Sem.run_bind, r_und hu, Result.andThen_ok, Instr.slice, vr_str' hq, hsz, Option.map_none, Option.isSome_none, Bool.false_eq_true, if_false, hsb, Sem.run_pure]
        · simp [List.extract_eq_take_drop]
  · cases hc

theorem ok_sla {ty e : TypeId} {n : Nat} {x : Operand} {lo hi mx : Option Operand} (hop : oper.op = .slice ty x lo hi mx) (hu : P.underlying ty = some (.array n e)) (hI : Inv gl s) (hev : Hev gl s t o ρ) (hc : compOp P gl iso oper = some o)
    (he : opE inl call o t h = some (v, h')) (hp : Pre s h h' (fpE o t h)) : OkOp gl s h h' v ((execOp ρ oper).run P s.w) := by
  simp only [compOp, hop, hu] at hc
  split at hc
  · rename_i sz q ql qh hsz hx hl hh
    split at hc
    · rename_i hpos
      injection hc with hc; subst hc
      obtain ⟨h3, rfl⟩ := map_pair (by simpa only [opE] using he)
      have hq := hev x q hx (by simp [O.args])
      have hlr := opt_ok (s := s) (t := t) (ρ := ρ) hl fun y a h1 h2 => hev y a h1 (by simp [O.args] at h2 ⊢; simp [h2])
      have hhr := opt_ok (s := s) (t := t) (ρ := ρ) hh fun y a h1 h2 => hev y a h1 (by simp [O.args] at h2 ⊢; simp [h2])
      unfold sla at h3
      split at h3
      · cases h3
      · rename_i u e1
        split at h3
        · cases h3
        · rename_i k e2
          have hle : k ≤ u := by rcases bnd_le e2 with ⟨_, h⟩ | ⟨_, h⟩ <;> omega
          have hul : u ≤ n := by rcases bnd_le e1 with ⟨_, h⟩ | ⟨_, h⟩ <;> omega
          have hsb := sb_run (P := P) (w := s.w) (isS := false) (len := n) (cap := n) (m := n) (mx := none) (fun _ => rfl) (fun c => bnd_ok hhr e1 (Nat.le_refl _) c) (fun c => bnd_ok hlr e2 (Nat.le_refl _) c) (.inl rfl)
          have hrun : ∀ a, ρ x = .pointer (some a) → (execOp ρ oper).run P s.w = .ok (.value (.slice (some (if n = k then a else a.add (k * sz))) (u - k) (n - k))) s.w := fun a ha => by
            simp only [execOp, hop, Instr.sliceAt, Sem.run_bind, r_und hu, Result.andThen_ok, ha, Instr.sureAddr, Sem.run_pure, Option.map_none, hsb, r_size hsz]
          have h8 : k * sz ≤ n * sz := Nat.mul_le_mul_right _ (by omega)
          have h6 : (n - k) * sz = n * sz - k * sz := Nat.sub_mul n k sz
          have h7 : (u - k) * sz = u * sz - k * sz := Nat.sub_mul u k sz
          have h9 : u * sz ≤ n * sz := Nat.mul_le_mul_right _ (by omega)
          split at h3
          · rename_i id off hb
            split at h3
            · rename_i m cs hh'
              split at h3
              · rename_i hcond
                injection h3 with h3; subst h3
                rw [hb] at hq
                have hag := hp.r id (by simp [fpE, hb])
                have haddr : ∀ a : Addr, (if n = k then a else a.add (k * sz)) = a.add (k * sz) := fun a => by
                  rcases hcond.2 with h | h
                  · rw [if_neg (by omega)]
                  · subst h
                    have e0 : a.add (0 * sz) = a := by simp [Addr.add]
                    rw [e0]; split <;> rfl
                rcases vr_own hq with ⟨lc, hM, hcv⟩ | ⟨hd, a, hcv, hsp⟩
                · obtain ⟨m', arr, e', fr, k1, k2, k3, k4, k5⟩ := agr_blk hI hM hag hh'
                  refine ok_pure hI (hrun _ hcv) ?_
                  rw [haddr, add_plain, Nat.add_assoc]
                  exact .osl id (off + k * sz) (u - k) sz (n - k) true (n - k) lc hM (Nat.le_refl _) (by omega) (fun _ => rfl) (by omega)
                · have := agr_dead hd hag hh'; cases this
              · cases h3
            · cases h3
          · rename_i cs hb
            split at h3
            · rename_i hcond
              injection h3 with h3; subst h3
              rw [hb] at hq
              obtain ⟨g, off, arr, e', fr, hcv, hg, hl', hr⟩ := vr_imm hq
              refine ok_pure hI (hrun _ hcv) ?_
              by_cases hz : u = k
              · subst hz
                simp only [Nat.sub_self, Nat.zero_mul, List.take_zero]
                exact .cl _ _ (.isl0 _ _ _ (fun m hm => by injection hm))
              · rw [if_neg (by omega), add_plain]
                refine .cl _ _ (.isl _ _ _ _ g (off + k * sz) arr e' fr (by omega) (fun m hm => by injection hm) hg (fun i hi => ?_) (fun i x y a b => ?_))
                · simp at hi
                  have := hl' (k * sz + i) (by omega); omega
                · rw [List.getElem?_take] at a
                  split at a
                  · exact hr (k * sz + i) x y (by simpa using a) (by rw [← Nat.add_assoc]; exact b)
                  · cases a
            · cases h3
          · cases h3
    · cases hc
  · cases hc

/-! ### Composites -/

theorem fold_set (off : Nat) : ∀ (l : List Value) (j : Nat) (arr : Array Value) (k : Nat), ((l.zipIdx j).foldl (fun cs (c, i) => cs.setIfInBounds (off + i) c) arr)[k]? =
    if off + j ≤ k ∧ k < off + j + l.length ∧ k < arr.size then l[k - (off + j)]? else arr[k]?
  | [], j, arr, k => by simp; omega
  | x :: l, j, arr, k => by
    rw [List.zipIdx_cons, List.foldl_cons, fold_set off l (j + 1)]
    simp only [Array.size_setIfInBounds, List.length_cons]
    by_cases h1 : k = off + j
    · subst h1
      rw [if_neg (by omega)]
      by_cases h2 : off + j < arr.size
      · rw [if_pos (by omega)]; simp [h2]
      · rw [if_neg (by omega)]; simp [h2]
    · rw [Array.getElem?_setIfInBounds_ne (by omega)]
      by_cases h2 : off + (j + 1) ≤ k ∧ k < off + (j + 1) + l.length ∧ k < arr.size
      · rw [if_pos h2, if_pos (by omega), show k - (off + j) = (k - (off + (j + 1))) + 1 from by omega, List.getElem?_cons_succ]
      · rw [if_neg h2, if_neg (by omega)]

theorem fold_set_size (off : Nat) : ∀ (l : List (Value × Nat)) (arr : Array Value), (l.foldl (fun cs (c, i) => cs.setIfInBounds (off + i) c) arr).size = arr.size
  | [], arr => rfl
  | x :: l, arr => by rw [List.foldl_cons, fold_set_size off l]; simp

theorem splice_get {cs xs : List V} {i k : Nat} (h : i + xs.length ≤ cs.length) : (splice cs i xs)[k]? = if i ≤ k ∧ k < i + xs.length then xs[k - i]? else cs[k]? := by
  unfold splice
  by_cases h1 : k < i
  · rw [if_neg (by omega), List.append_assoc, List.getElem?_append_left (by simp; omega), List.getElem?_take, if_pos h1]
  · by_cases h2 : k < i + xs.length
    · rw [if_pos (by omega), List.append_assoc, List.getElem?_append_right (by simp; omega), List.getElem?_append_left (by simp; omega)]
      simp [show min i cs.length = i from by omega]
    · rw [if_neg (by omega), List.getElem?_append_right (by simp; omega)]
      simp [show min i cs.length = i from by omega]
      congr 1; omega

theorem splice_len {cs xs : List V} {i : Nat} (h : i + xs.length ≤ cs.length) : (splice cs i xs).length = cs.length := by
  unfold splice; simp; omega

/-- Two rows of cells, one by one. -/
def Cells (s : St) (cs : List V) (arr : Array Value) : Prop := cs.length = arr.size ∧ ∀ (i : Nat) (x : V) (y : Value), cs[i]? = some x → arr[i]? = some y → s.vr x y

theorem fill_ok (place : Nat → Option (Nat × Nat)) : ∀ (ps : List (Nat × Operand)) (qs : List (Nat × Nat × A)) (cs cs' : List V) (arr : Array Value), partsOf gl place ps = some qs → (∀ x q, opd gl x = some q → q ∈ qs.map (·.2.2) → s.vr (ev t q) (ρ x)) →
    Cells s cs arr → fill cs (parts t qs) = some cs' → ∃ arr', Instr.fill place arr (ps.map fun (i, x) => (i, ρ x)) = some arr' ∧ Cells s cs' arr' ∧ (cs.all V.one = true → cs'.all V.one = true)
  | [], qs, cs, cs', arr, h1, _, hc, hf => by
    simp [partsOf] at h1; subst h1
    simp [parts, fill] at hf; subst hf
    exact ⟨arr, rfl, hc, fun h => h⟩
  | (i, x) :: ps, qs, cs, cs', arr, h1, hev, hc, hf => by
    unfold partsOf at h1
    rw [List.mapM_cons] at h1
    simp only [Option.bind_eq_bind, Option.bind_eq_some_iff] at h1
    obtain ⟨q, h2, qs', h3, h4⟩ := h1
    injection h4 with h4; subst h4
    split at h2
    · rename_i off sz a hp hx
      injection h2 with h2; subst h2
      simp only [parts, List.map_cons, fill] at hf
      split at hf
      · rename_i hcond
        obtain ⟨hl, hle, hone⟩ := hcond
        have hvx := hev x a hx (by simp)
        obtain ⟨hcl, hcr⟩ := cells_rel hvx
        have hc2 : Cells s (splice cs off (ev t a).cells) ((ρ x).cells.zipIdx.foldl (fun cs (c, j) => cs.setIfInBounds (off + j) c) arr) := by
          have hfold : ∀ k, ((ρ x).cells.zipIdx.foldl (fun cs (c, j) => cs.setIfInBounds (off + j) c) arr)[k]? = if off ≤ k ∧ k < off + (ρ x).cells.size ∧ k < arr.size then (ρ x).cells[k - off]? else arr[k]? := fun k => by
            have := fold_set off (ρ x).cells.toList 0 arr k
            rw [← Array.foldl_toList, Array.toList_zipIdx]
            simpa using this
          have hsz : ((ρ x).cells.zipIdx.foldl (fun cs (c, j) => cs.setIfInBounds (off + j) c) arr).size = arr.size := by
            rw [← Array.foldl_toList]; exact fold_set_size off _ arr
          refine ⟨by rw [splice_len (by omega), hsz, hc.1], fun k y z aa bb => ?_⟩
          rw [splice_get (by omega)] at aa
          rw [hfold] at bb
          by_cases hk : off ≤ k ∧ k < off + (ev t a).cells.length
          · rw [if_pos hk] at aa
            rw [if_pos ⟨hk.1, by omega, by rw [← hc.1]; omega⟩] at bb
            exact hcr _ _ _ aa bb
          · rw [if_neg hk] at aa
            rw [if_neg (fun hh => hk ⟨hh.1, by omega⟩)] at bb
            exact hc.2 _ _ _ aa bb
        obtain ⟨arr', h5, h6, h7⟩ := fill_ok place ps qs' _ cs' _ h3 (fun y q e1 e2 => hev y q e1 (by simp only [List.map_cons, List.mem_cons]; exact .inr e2)) hc2 hf
        refine ⟨arr', ?_, h6, fun hall => h7 ?_⟩
        · simp only [List.map_cons, Instr.fill, hp]
          rw [if_neg]
          · exact h5
          · simp only [ne_eq, Bool.or_eq_true, decide_eq_true_eq, not_or]
            exact ⟨by omega, by have := hc.1; omega⟩
        · unfold splice
          simp only [List.all_append, Bool.and_eq_true]
          exact ⟨⟨List.all_eq_true.2 fun y hy => List.all_eq_true.1 hall y (List.mem_of_mem_take hy), hone⟩, List.all_eq_true.2 fun y hy => List.all_eq_true.1 hall y (List.mem_of_mem_drop hy)⟩
      · cases hf
    · cases h2

end
end Go.Am
