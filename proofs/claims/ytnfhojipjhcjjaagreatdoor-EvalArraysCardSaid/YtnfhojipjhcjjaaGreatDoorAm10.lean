/-
  ONE OPERATION OF THE MACHINE DOES WHAT THE EVALUATOR SAYS, SEVENTH PART: zero values, composites, what is made anew. Conditions: as each lemma names them.
-/
import Derived.Test.YtnfhojipjhcjjaaGreatDoorAm9
import Derived.Laws.NewFold
import Derived.Laws.MakeOwn
namespace Go.Am
set_option autoImplicit false
set_option linter.unusedVariables false
set_option linter.unusedSimpArgs false

mutual
theorem ofValue_rel {rd : Nat → Option Obj} : ∀ (c : Value) (u : V), ofValue c = some u → CRel rd u c
  | .bool b, u, h => by simp only [ofValue, Option.some.injEq] at h; subst h; exact .bool b
  | .int k n, u, h => by simp only [ofValue, Option.some.injEq] at h; subst h; exact .int k n
  | .string s, u, h => by simp only [ofValue, Option.some.injEq] at h; subst h; exact .str _ _ rfl
  | .pointer none, u, h => by simp only [ofValue, Option.some.injEq] at h; subst h; exact .nilp
  | .slice none 0 0, u, h => by simp only [ofValue, Option.some.injEq] at h; subst h; exact .nils
  | .map none, u, h => by simp only [ofValue, Option.some.injEq] at h; subst h; exact .nilm
  | .func (.func f) ⟨[]⟩ ⟨[]⟩, u, h => by simp only [ofValue, Option.some.injEq] at h; subst h; exact .fn f [] _ rfl (fun i x y a => by simp at a)
  | .nilFunc, u, h => by simp only [ofValue, Option.some.injEq] at h; subst h; exact .nilf
  | .nilIface, u, h => by simp only [ofValue, Option.some.injEq] at h; subst h; exact .nili
  | .agg ⟨cs⟩, u, h => by
    simp only [ofValue, Option.map_eq_some_iff] at h
    obtain ⟨us, h1, rfl⟩ := h
    obtain ⟨h2, h3⟩ := ofValues_rel (rd := rd) cs us h1
    exact .agg us ⟨cs⟩ h2 (fun i x y a b => h3 i x y a (by simpa using b))
  | .pointer (some _), u, h => by simp [ofValue] at h
  | .slice (some _) _ _, u, h => by simp [ofValue] at h
  | .slice none (_+1) _, u, h => by simp [ofValue] at h
  | .slice none 0 (_+1), u, h => by simp [ofValue] at h
  | .map (some _), u, h => by simp [ofValue] at h
  | .func (.func f) ⟨[]⟩ ⟨_ :: _⟩, u, h => by simp [ofValue] at h
  | .func (.func f) ⟨_ :: _⟩ _, u, h => by simp [ofValue] at h
  | .func (.method _) _ _, u, h => by simp [ofValue] at h
  | .func (.methodOf _ _) _ _, u, h => by simp [ofValue] at h
  | .func (.via _ _ _ _) _ _, u, h => by simp [ofValue] at h
  | .func (.yield _) _ _, u, h => by simp [ofValue] at h
  | .float _ _, u, h => by simp [ofValue] at h
  | .complex _ _ _, u, h => by simp [ofValue] at h
  | .iface _ _, u, h => by simp [ofValue] at h
  | .chan _, u, h => by simp [ofValue] at h
  | .tuple _, u, h => by simp [ofValue] at h
theorem ofValues_rel {rd : Nat → Option Obj} : ∀ (l : List Value) (us : List V), ofValues l = some us → us.length = l.length ∧ ∀ (i : Nat) (x : V) (y : Value), us[i]? = some x → l[i]? = some y → CRel rd x y
  | [], us, h => by simp only [ofValues, Option.some.injEq] at h; subst h; simp
  | c :: r, us, h => by
    simp only [ofValues] at h
    split at h
    · rename_i y ys h1 h2
      injection h with h; subst h
      have h3 := ofValue_rel (rd := rd) c y h1
      obtain ⟨h4, h5⟩ := ofValues_rel (rd := rd) r ys h2
      refine ⟨by simp [h4], fun i x y a b => ?_⟩
      cases i with
      | zero => simp at a b; subst a b; exact h3
      | succ i => exact h5 i x y (by simpa using a) (by simpa using b)
    · cases h
end

section
variable {P : Program} {gl : Nat → Option (List V)} {inl : FuncId → Bool} {call : CallF} {s : St} {h h' : H} {t : T} {v : V} {o : O} {oper : Oper} {ρ : Operand → Value} {iso : Bool}

theorem Cells.of_cr {cs : List V} {arr : Array Value} {rd : Nat → Option Obj} {M : Nat → Option Loc} {D : Nat → Prop} (u : V) (c : Value) (h : CRel rd u c) (hr : rd = s.rd) : Cells s u.cells c.cells := by
  subst hr
  exact cells_rel (.cl _ _ h : s.vr u c)

/-- A type's zero value. -/
theorem zero_ok {ty : TypeId} {z : List V} (h : zeroB P ty = some z) (s : St) (w : World) : ∃ i zv, P.info? ty = some i ∧ i.zero = some zv ∧ (zeroValue ty).run P w = .ok zv w ∧ Cells s z zv.cells ∧ z.all V.one = true ∧ z.length = i.size := by
  unfold zeroB at h
  split at h
  · rename_i i hi
    split at h
    · rename_i zv hz
      split at h
      · rename_i u hu
        split at h
        · rename_i hc
          injection h with h; subst h
          exact ⟨i, zv, hi, hz, by simp [zeroValue, r_info hi, hz], cells_rel (.cl _ _ (ofValue_rel zv u hu) : s.vr u zv), hc.1, hc.2⟩
        · cases h
      · cases h
    · cases h
  · cases h

theorem zeroV_ok {ty : TypeId} {z : V} (h : zeroV P ty = some z) (s : St) (w : World) : ∃ zv, (zeroValue ty).run P w = .ok zv w ∧ s.vr z zv := by
  unfold zeroV at h
  split at h
  · rename_i i hi
    rw [Option.bind_eq_some_iff] at h
    obtain ⟨zv, hz, hu⟩ := h
    exact ⟨zv, by simp [zeroValue, r_info hi, hz], .cl _ _ (ofValue_rel zv z hu)⟩
  · cases h

theorem upd_news (G : Nat → Option Ob) (h : H) (o : Ob) : setG G h.length (some o) = upd G h (h ++ [o]) := by
  funext id
  unfold setG upd
  by_cases h1 : id = h.length
  · subst h1; simp
  · rw [if_neg h1]
    by_cases h2 : id < h.length
    · rw [if_pos (by rw [List.getElem?_append_left h2])]
    · rw [if_pos]
      rw [List.getElem?_eq_none (by simp; omega), List.getElem?_eq_none (by omega)]

/-- A new row of cells. -/
theorem new_ok {cs : List V} {arr : Array Value} {e : TypeId} {w1 : World} {n : Nat} {c : Value} {r : Result Next} (hI : Inv gl s) (hp : s.M h.length = none ∧ s.G h.length = none) (hw : w1 = { s.w with drawn := n })
    (hn : cs.length ≤ arr.size) (hr : ∀ (i : Nat) (x : V) (y : Value), cs[i]? = some x → arr[i]? = some y → s.vr x y) (hrun : r = .ok (.value c) (w1.alloc (.cells arr e (0, 0))))
    (hv : ∀ s' : St, s'.M h.length = some ⟨s.w.heap.size, 0, arr.size⟩ → s'.vr v c) : OkOp gl s h (news h cs) v r := by
  subst hw
  obtain ⟨hI0, hE0⟩ := hI.drawn n
  obtain ⟨hI1, hE1⟩ := hI0.newBlk h.length hp.1 (by unfold St.dead; simp [hp.2]) true cs arr e hn (fun i x y a b => hE0.vr (hr i x y a b)) (0, 0) (fun _ => rfl)
  refine ⟨_, c, _, hrun, .inl rfl, hI1, hE0.trans hE1, hv _ (by simp), ?_, fun id l hm => ?_⟩
  · exact upd_news _ _ _
  · by_cases hi : id = h.length
    · subst hi; right; simp [news]
    · left; simpa [setG_ne _ _ hi] using hm

theorem Pre.new {x : Ob} {fp : List Nat × List Nat} (hp : Pre s h (h ++ [x]) fp) : s.M h.length = none ∧ s.G h.length = none := hp.n h.length (Nat.le_refl _) (by simp)

theorem vr_new {id : Nat} {x : Nat} {g : Nat} {s' : St} (h : s'.M id = some ⟨g, 0, x⟩) : s'.vr (.own id 0) (.pointer (some ⟨g, 0, none⟩)) :=
  VRel.own (rd := s'.rd) (M := s'.M) (D := s'.dead) id 0 _ h

theorem ok_alloc {ty : TypeId} (hop : oper.op = .alloc ty) (hI : Inv gl s) (hc : compOp P gl iso oper = some o) (he : opE inl call o t h = some (v, h')) (hp : Pre s h h' (fpE o t h)) :
    OkOp gl s h h' v ((execOp ρ oper).run P s.w) := by
  simp only [compOp, hop, Option.map_eq_some_iff] at hc
  obtain ⟨z, hz, rfl⟩ := hc
  simp only [opE, Option.some.injEq, Prod.mk.injEq] at he
  obtain ⟨rfl, rfl⟩ := he
  obtain ⟨i, zv, hi, hzv, hrun, hcell, hone, hlen⟩ := zero_ok hz s s.w
  refine new_ok (n := s.w.drawn) (arr := zv.cells) (e := ty) hI hp.new rfl (by rw [hcell.1]; exact Nat.le_refl _) hcell.2 (c := .pointer (some ⟨s.w.heap.size, 0, none⟩)) ?_ (fun s' hm => vr_new hm)
  simp only [execOp, hop, Instr.alloc, Sem.run_bind, hrun, Result.andThen_ok, newVar, newRow, run_newObj_alloc, Sem.run_pure]

theorem ok_box {ty : TypeId} {x : Operand} (hop : oper.op = .box ty x) (hI : Inv gl s) (hev : Hev gl s t o ρ) (hc : compOp P gl iso oper = some o) (he : opE inl call o t h = some (v, h')) (hp : Pre s h h' (fpE o t h)) :
    OkOp gl s h h' v ((execOp ρ oper).run P s.w) := by
  simp only [compOp, hop, Option.map_eq_some_iff] at hc
  obtain ⟨q, hx, rfl⟩ := hc
  simp only [opE] at he
  split at he
  · simp only [Option.some.injEq, Prod.mk.injEq] at he
    obtain ⟨rfl, rfl⟩ := he
    obtain ⟨h1, h2⟩ := cells_rel (hev x q hx (by simp [O.args]))
    refine new_ok (n := s.w.drawn) (arr := (ρ x).cells) (e := ty) hI hp.new rfl (by omega) h2 (c := .pointer (some ⟨s.w.heap.size, 0, none⟩)) ?_ (fun s' hm => vr_new hm)
    simp only [execOp, hop, Instr.box, Sem.run_bind, Result.andThen_ok, newVar, newRow, run_newObj_alloc, Sem.run_pure]
  · cases he

theorem ok_mkmap {ty : TypeId} (hop : oper.op = .makeMap ty none) (hI : Inv gl s) (hc : compOp P gl iso oper = some o) (he : opE inl call o t h = some (v, h')) (hp : Pre s h h' (fpE o t h)) :
    OkOp gl s h h' v ((execOp ρ oper).run P s.w) := by
  simp only [compOp, hop, Option.some.injEq] at hc
  subst hc
  simp only [opE, Option.some.injEq, Prod.mk.injEq] at he
  obtain ⟨rfl, rfl⟩ := he
  obtain ⟨h1, h2⟩ := hp.new
  obtain ⟨hI1, hE1⟩ := hI.newMap h.length h1 (by unfold St.dead; simp [h2])
  refine ⟨_, .map (some s.w.heap.size), _, ?_, .inl rfl, hI1, hE1, ?_, upd_news _ _ _, fun id l hm => ?_⟩
  · simp only [execOp, hop, Instr.makeMap, Sem.run_bind, Result.andThen_ok, run_newObj_alloc, Sem.run_pure, Option.map_none]
  · exact VRel.omap h.length ⟨s.w.heap.size, 0, 0⟩ (by simp)
  · by_cases hi : id = h.length
    · subst hi; right; simp
    · left; simpa [setG_ne _ _ hi] using hm

/-- Rows of zeros. -/
theorem zeros_get (zc : Array Value) (n k : Nat) (hk : k < n) (hz : 0 < zc.size) : ((Array.range n).map (zc[· % zc.size]!))[k]? = zc[k % zc.size]? := by
  have : k % zc.size < zc.size := Nat.mod_lt _ hz
  simp [Array.getElem?_map, Array.getElem?_range, hk, this]

theorem rep_len (n : Nat) (z : List V) : (rep n z).length = n * z.length := by simp [rep]

theorem rep_get (z : List V) : ∀ (n k : Nat), k < n * z.length → (rep n z)[k]? = z[k % z.length]?
  | 0, k, h => by simp at h
  | n + 1, k, h => by
    have hr : rep (n + 1) z = z ++ rep n z := by simp [rep, List.replicate_succ]
    rw [hr]
    have hz : 0 < z.length := by
      rcases Nat.eq_zero_or_pos z.length with h0 | h0
      · rw [h0] at h; simp at h
      · exact h0
    by_cases h1 : k < z.length
    · rw [List.getElem?_append_left h1, Nat.mod_eq_of_lt h1]
    · rw [List.getElem?_append_right (by omega), rep_get z n (k - z.length) (by rw [Nat.succ_mul] at h; omega)]
      rw [Nat.mod_eq_sub_mod (by omega : k ≥ z.length)]

theorem rep_ok {z : List V} {zc : Array Value} (n m : Nat) (hm : m = n * z.length) (hc : Cells s z zc) : Cells s (rep n z) ((Array.range m).map (zc[· % zc.size]!)) := by
  subst hm
  refine ⟨by simp [rep_len], fun i x y a b => ?_⟩
  have hi : i < n * z.length := by rw [← rep_len]; exact (List.getElem?_eq_some_iff.1 a).1
  have hz : 0 < z.length := by
    rcases Nat.eq_zero_or_pos z.length with h0 | h0
    · rw [h0] at hi; simp at hi
    · exact h0
  rw [rep_get z n i hi] at a
  rw [zeros_get zc _ i hi (by rw [← hc.1]; exact hz), ← hc.1] at b
  exact hc.2 _ x y a b

theorem rep_one {z : List V} (n : Nat) (h : z.all V.one = true) : (rep n z).all V.one = true := by
  rw [List.all_eq_true] at h ⊢
  intro x hx
  unfold rep at hx
  rw [List.mem_flatten] at hx
  obtain ⟨l, hl, hx⟩ := hx
  rw [List.mem_replicate] at hl
  exact h x (hl.2 ▸ hx)

theorem mapM_places {fs : Array Field} {w : World} (h : fs.toList.all (fun f => (sizeB P f.type).isSome) = true) :
    (fs.mapM (fun (f : Field) => (do pure (f.offset, ← sizeOf f.type) : Sem (Nat × Nat)))).run P w = .ok (fs.map fun (f : Field) => (f.offset, (sizeB P f.type).getD 0)) w := by
  obtain ⟨l⟩ := fs
  rw [List.mapM_toArray]
  have key : ∀ l : List Field, l.all (fun f => (sizeB P f.type).isSome) = true → (l.mapM (fun f => (do pure (f.offset, ← sizeOf f.type) : Sem (Nat × Nat)))).run P w = .ok (l.map fun f => (f.offset, (sizeB P f.type).getD 0)) w := by
    intro l
    induction l with
    | nil => intro _; simp
    | cons f l ih =>
      intro h
      simp only [List.all_cons, Bool.and_eq_true] at h
      obtain ⟨n, hn⟩ := Option.isSome_iff_exists.1 h.1
      simp only [List.mapM_cons, Sem.run_bind, r_size hn, Result.andThen_ok, Sem.run_pure, ih h.2, List.map_cons, hn, Option.getD_some]
  show ((l.mapM (fun (f : Field) => (do pure (f.offset, ← sizeOf f.type) : Sem (Nat × Nat)))) >>= fun x => pure x.toArray).run P w = _
  simp only [Sem.run_bind, key l h, Result.andThen_ok, Sem.run_pure, List.map_toArray]

theorem ok_build {ty : TypeId} {ps : Array (Nat × Operand)} (hop : oper.op = .build ty ps) (hI : Inv gl s) (hev : Hev gl s t o ρ) (hc : compOp P gl iso oper = some o) (he : opE inl call o t h = some (v, h')) :
    OkOp gl s h h' v ((execOp ρ oper).run P s.w) := by
  simp only [compOp, hop] at hc
  split at hc
  · rename_i z fs hz hu
    split at hc
    · cases hc
    · rename_i hall
      have hall' : fs.toList.all (fun f => (sizeB P f.type).isSome) = true := by
        revert hall; cases fs.toList.all (fun f => (sizeB P f.type).isSome) <;> simp
      rw [Option.map_eq_some_iff] at hc
      obtain ⟨l, hl, rfl⟩ := hc
      obtain ⟨h3, rfl⟩ := map_pair (by simpa only [opE] using he)
      rw [Option.map_eq_some_iff] at h3
      obtain ⟨cs, hcs, rfl⟩ := h3
      obtain ⟨i, zv, hi, hzv, hrun, hcell, hone, hlen⟩ := zero_ok hz s s.w
      obtain ⟨arr, k1, k2, _⟩ := fill_ok (t := t) (ρ := ρ) _ _ _ _ _ _ hl (fun x q a b => hev x q a (by simpa [O.args] using b)) hcell hcs
      refine ok_pure hI (c := .agg arr) ?_ (.agg _ _ k2.1 k2.2)
      have k1' : Instr.fill ((fs.map fun (f : Field) => (f.offset, (sizeB P f.type).getD 0))[·]?) zv.cells (ps.toList.map fun (i, x) => (i, ρ x)) = some arr := by
        rw [← k1]
        congr 1
        funext i
        rw [Array.getElem?_map]
        cases hf : fs[i]? with
        | none => rfl
        | some f =>
          obtain ⟨n, hn⟩ := Option.isSome_iff_exists.1 (List.all_eq_true.1 hall' f (by rw [← Array.getElem?_toList] at hf; exact List.mem_of_getElem? hf))
          simp [hn]
      simp only [execOp, hop, Instr.build, Sem.run_bind, hrun, Result.andThen_ok, r_und hu, mapM_places hall', Array.toList_map, k1', Sem.run_pure]
  · rename_i z n e hz hu
    rw [Option.bind_eq_some_iff] at hc
    obtain ⟨sz, hsz, hc⟩ := hc
    rw [Option.map_eq_some_iff] at hc
    obtain ⟨l, hl, rfl⟩ := hc
    obtain ⟨h3, rfl⟩ := map_pair (by simpa only [opE] using he)
    rw [Option.map_eq_some_iff] at h3
    obtain ⟨cs, hcs, rfl⟩ := h3
    obtain ⟨i, zv, hi, hzv, hrun, hcell, hone, hlen⟩ := zero_ok hz s s.w
    obtain ⟨arr, k1, k2, _⟩ := fill_ok (t := t) (ρ := ρ) _ _ _ _ _ _ hl (fun x q a b => hev x q a (by simpa [O.args] using b)) hcell hcs
    refine ok_pure hI (c := .agg arr) ?_ (.agg _ _ k2.1 k2.2)
    simp only [execOp, hop, Instr.build, Sem.run_bind, hrun, Result.andThen_ok, r_und hu, r_size hsz, Array.toList_map, k1, Sem.run_pure]
  · cases hc

theorem ok_bsl {ty : TypeId} {n : Nat} {ps : Array (Nat × Operand)} (hop : oper.op = .buildSlice ty n ps) (hI : Inv gl s) (hev : Hev gl s t o ρ) (hc : compOp P gl iso oper = some o) (he : opE inl call o t h = some (v, h')) (hp : Pre s h h' (fpE o t h)) :
    OkOp gl s h h' v ((execOp ρ oper).run P s.w) := by
  simp only [compOp, hop] at hc
  split at hc
  · rename_i e hu
    split at hc
    · rename_i sz z hsz hz
      split at hc
      · rename_i hcond
        rw [Option.map_eq_some_iff] at hc
        obtain ⟨l, hl, rfl⟩ := hc
        simp only [opE, Option.map_eq_some_iff, Prod.mk.injEq] at he
        obtain ⟨cs, hcs, rfl, rfl⟩ := he
        obtain ⟨i, zv, hi, hzv, hrun, hcell, hone, hlen⟩ := zero_ok hz s s.w
        have hle : ¬ (n * sz > 2 ^ 24) := by have := hcond.1; omega
        have hrow : Cells s (rep n z) ((Array.range (n * sz)).map ((if n * sz = 0 then #[] else zv.cells)[· % (if n * sz = 0 then #[] else zv.cells).size]!)) := by
          by_cases h0 : n * sz = 0
          · refine ⟨by rw [rep_len, hcond.2, h0]; simp, fun i x y a b => ?_⟩
            rw [h0] at b; simp at b
          · simp only [if_neg h0]
            exact rep_ok n (n * sz) (by rw [hcond.2]) hcell
        obtain ⟨arr, k1, k2, _⟩ := fill_ok (t := t) (ρ := ρ) _ _ _ _ _ _ hl (fun x q a b => hev x q a (by simpa [O.args] using b)) hrow hcs
        have hsize : arr.size = n * sz := by
          have h1 := k2.1
          have h2 : cs.length = (rep n z).length := by
            revert hcs; generalize parts t l = p; generalize rep n z = r
            intro hcs
            induction p generalizing r with
            | nil => simp [fill] at hcs; rw [hcs]
            | cons a p ih =>
              obtain ⟨off, s1, x⟩ := a
              simp only [fill] at hcs
              split at hcs
              · rename_i hc3; rw [ih _ hcs, splice_len (by omega)]
              · cases hcs
          rw [rep_len, hcond.2] at h2; omega
        refine new_ok (n := s.w.drawn) (arr := arr) (e := e) hI hp.new rfl (by rw [k2.1]; exact Nat.le_refl _) k2.2 (c := .slice (some ⟨s.w.heap.size, 0, none⟩) n n) ?_ (fun s' hm => ?_)
        · by_cases h0 : n * sz = 0
          · simp only [h0, if_true] at k1
            simp only [execOp, hop, Instr.buildSlice, Sem.run_bind, r_und hu, Result.andThen_ok, r_size hsz, if_neg (show ¬ (0 > 2 ^ 24) by omega), h0, if_true, Sem.run_pure, Array.toList_map, k1, newRow, run_newObj_alloc]
          · simp only [if_neg h0] at k1
            simp only [execOp, hop, Instr.buildSlice, Sem.run_bind, r_und hu, Result.andThen_ok, r_size hsz, if_neg hle, if_neg h0, Sem.run_pure, hrun, Array.toList_map, k1, newRow, run_newObj_alloc]
        · exact VRel.osl (rd := s'.rd) (M := s'.M) (D := s'.dead) h.length 0 n sz n true n _ hm (Nat.le_refl _) (Nat.le_refl _) (fun _ => rfl) (by simp; omega)
      · cases hc
    · cases hc
  · cases hc

theorem ok_mksl {ty : TypeId} {n c : Operand} (hop : oper.op = .makeSlice ty n c) (hI : Inv gl s) (hev : Hev gl s t o ρ) (hc : compOp P gl iso oper = some o) (he : opE inl call o t h = some (v, h')) (hp : Pre s h h' (fpE o t h)) :
    OkOp gl s h h' v ((execOp ρ oper).run P s.w) := by
  simp only [compOp, hop] at hc
  split at hc
  · rename_i e hu
    split at hc
    · rename_i z i q1 q2 hz hi h1 h2
      injection hc with hc; subst hc
      simp only [opE] at he
      split at he
      · rename_i a b ha hb
        split at he
        · rename_i hcond
          simp only [Option.some.injEq, Prod.mk.injEq] at he
          obtain ⟨rfl, rfl⟩ := he
          have ea := vr_int (ha ▸ hev n q1 h1 (by simp [O.args]))
          have eb := vr_int (hb ▸ hev c q2 h2 (by simp [O.args]))
          obtain ⟨i', zv, hi', hzv, hrun, hcell, hone, hlen⟩ := zero_ok hz s s.w
          rw [hi] at hi'; injection hi' with hi'; subst hi'
          obtain ⟨h0, hab, hbytes, h63⟩ := hcond
          have hrun := run_make (P := P) s.w ty e i zv hu hi hzv .i64 .i64 a b h0 hab (by rw [Int.mul_comm]; omega) h63
          refine new_ok (n := s.w.drawn) (arr := madeCells zv.cells (b.toNat * i.size)) (e := e) hI hp.new rfl (by rw [rep_len, size_madeCells, hlen]; exact Nat.le_refl _) (rep_ok b.toNat _ (by rw [hlen]) hcell).2 (c := .slice (some ⟨s.w.heap.size, 0, none⟩) a.toNat b.toNat) ?_ (fun s' hm => ?_)
          · simp only [execOp, hop, ea, eb, Sem.run_bind, hrun, Result.andThen_ok, Sem.run_pure]
          · exact VRel.osl (rd := s'.rd) (M := s'.M) (D := s'.dead) h.length 0 a.toNat z.length b.toNat true b.toNat _ hm (Nat.le_refl _) (by omega) (fun _ => rfl) (by simp [size_madeCells, hlen])
        · cases he
      · cases he
    · cases hc
  · cases hc

end
end Go.Am
