/-
  ONE OPERATION OF THE MACHINE DOES WHAT THE EVALUATOR SAYS, FIFTH PART: slices, strings, conversions, look-ups, lengths, composites. Conditions: as each lemma names them.
-/
import Derived.Test.YtnfhojipjhcjjaaGreatDoorAm7
import Derived.Laws.BytesArg
namespace Go.Am
set_option autoImplicit false
set_option linter.unusedVariables false
set_option linter.unusedSimpArgs false

section
variable {P : Program} {gl : Nat → Option (List V)} {inl : FuncId → Bool} {call : CallF} {s : St} {h h' : H} {t : T} {v : V} {o : O} {oper : Oper} {ρ : Operand → Value} {iso : Bool}

/-- A slice's cells, as they lie. -/
theorem slcells_ok {sz : Nat} {x : V} {c : Value} {cs : List V} (hI : Inv gl s) (hx : s.vr x c) (ha : ∀ id off len z lo ex, x = .osl id off len z lo ex → s.G id ≠ none → (s.G id).map Ob.frozen = (h[id]?).map Ob.frozen)
    (hr : slcells h sz x = some cs) : ∃ a len cap, c = .slice a len cap ∧ cs.length = len * sz ∧
      (cs = [] ∨ ∃ g off arr e fr, a = some ⟨g, off, none⟩ ∧ s.w.heap[g]? = some (.cells arr e fr) ∧ off + cs.length ≤ arr.size ∧ ∀ (i : Nat) (x : V) (y : Value), cs[i]? = some x → arr[off + i]? = some y → s.vr x y) := by
  cases x with
  | nils =>
    simp only [slcells, Option.some.injEq] at hr; subst hr
    exact ⟨none, 0, 0, vr_nils hx, by simp, .inl rfl⟩
  | isl ds len ex =>
    simp only [slcells] at hr
    split at hr
    · rename_i hlen
      injection hr with hr; subst hr
      rcases vr_isl hx with ⟨rfl, rfl, a, cc, rfl, _⟩ | ⟨g, off, arr, e, fr, cc, rfl, _, _, hg, hl, hr⟩
      · exact ⟨a, 0, cc, rfl, by simp, .inl rfl⟩
      · refine ⟨_, len, cc, rfl, hlen, ?_⟩
        by_cases hz : ds = []
        · exact .inl hz
        · refine .inr ⟨g, off, arr, e, fr, rfl, (St.rd_some.1 hg).2, ?_, fun i x y a b => .cl _ _ (hr i x y a b)⟩
          have hpos : 0 < ds.length := List.length_pos_iff.2 hz
          have := hl (ds.length - 1) (by omega)
          omega
    · cases hr
  | osl id off len z lo ex =>
    simp only [slcells] at hr
    split at hr
    · rename_i m ds hh
      split at hr
      · rename_i hcond
        injection hr with hr; subst hr
        rcases vr_osl hx with ⟨l, cc, hM, rfl, _⟩ | ⟨hd, _⟩
        · obtain ⟨m', arr, e, fr, k1, k2, k3, k4, k5⟩ := agr_blk hI hM (ha id off len z lo ex rfl) hh
          refine ⟨_, len, cc, rfl, by simp; omega, .inr ⟨l.g, l.b + off, arr, e, fr, rfl, k2, by simp; omega, fun i x y a b => ?_⟩⟩
          rw [List.getElem?_take] at a
          split at a
          · exact k5 (off + i) x y (by simpa using a) (by rw [← Nat.add_assoc]; exact b)
          · cases a
        · have := agr_dead hd (ha id off len z lo ex rfl) hh; cases this
      · cases hr
    · cases hr
  | _ => simp [slcells] at hr

theorem toU8_ok {cs : List V} {l : List UInt8} (h : toU8 cs = some l) : ∃ ns : List Int, cs = ns.map (V.int .u8) ∧ l = ns.map fun n => UInt8.ofNat n.toNat := by
  induction cs generalizing l with
  | nil => simp [toU8] at h; subst h; exact ⟨[], rfl, rfl⟩
  | cons x cs ih =>
    cases x with
    | int k n =>
      cases k <;> simp only [toU8] at h <;> try (cases h; done)
      rw [Option.map_eq_some_iff] at h
      obtain ⟨r, h1, rfl⟩ := h
      obtain ⟨ns, rfl, rfl⟩ := ih h1
      exact ⟨n :: ns, rfl, rfl⟩
    | _ => simp [toU8] at h

theorem ok_convInt {sd dd : TypeId} {x : Operand} {k j : IntKind} (hop : oper.op = .convert sd dd x) (hs : P.underlying sd = some (.int j)) (hd : P.underlying dd = some (.int k)) (hI : Inv gl s) (hev : Hev gl s t o ρ)
    (hc : compOp P gl iso oper = some o) (he : opE inl call o t h = some (v, h')) : OkOp gl s h h' v ((execOp ρ oper).run P s.w) := by
  simp only [compOp, hop, hs, hd] at hc
  cases hx : opd gl x with
  | none => simp [hx] at hc
  | some q =>
    simp only [hx, Option.some.injEq] at hc; subst hc
    obtain ⟨h3, rfl⟩ := map_pair (by simpa only [opE] using he)
    have hq := hev x q hx (by simp [O.args])
    cases hqv : ev t q <;> rw [hqv] at h3 hq <;> simp only [conv] at h3 <;> try (cases h3; done)
    injection h3 with h3; subst h3
    refine ok_pure hI ?_ (cint _ _)
    simp [execOp, hop, convert, r_und hs, r_und hd, vr_int hq, Conv.intToInt]

theorem ok_convSame {sd dd : TypeId} {x : Operand} (hop : oper.op = .convert sd dd x) (hs : P.underlying sd = some .string) (hd : P.underlying dd = some .string) (hI : Inv gl s) (hev : Hev gl s t o ρ)
    (hc : compOp P gl iso oper = some o) (he : opE inl call o t h = some (v, h')) : OkOp gl s h h' v ((execOp ρ oper).run P s.w) := by
  simp only [compOp, hop, hs, hd] at hc
  cases hx : opd gl x with
  | none => simp [hx] at hc
  | some q =>
    simp only [hx, Option.some.injEq] at hc; subst hc
    obtain ⟨h3, rfl⟩ := map_pair (by simpa only [opE] using he)
    have hq := hev x q hx (by simp [O.args])
    cases hqv : ev t q <;> rw [hqv] at h3 hq <;> simp only [conv] at h3 <;> try (cases h3; done)
    injection h3 with h3; subst h3
    refine ok_pure hI ?_ (cstr _)
    simp [execOp, hop, convert, r_und hs, r_und hd, vr_str' hq]

theorem ok_b2s {sd dd e : TypeId} {x : Operand} (hop : oper.op = .convert sd dd x) (hs : P.underlying sd = some (.slice e)) (hu8 : P.underlying e = some (.int .u8)) (hd : P.underlying dd = some .string) (hI : Inv gl s) (hev : Hev gl s t o ρ)
    (hc : compOp P gl iso oper = some o) (he : opE inl call o t h = some (v, h')) (hp : Pre s h h' (fpE o t h)) : OkOp gl s h h' v ((execOp ρ oper).run P s.w) := by
  simp only [compOp, hop, hs, hd] at hc
  cases hx : opd gl x with
  | none => simp [hx] at hc
  | some q =>
    simp only [hx, hu8, Option.some.injEq] at hc; subst hc
    obtain ⟨h3, rfl⟩ := map_pair (by simpa only [opE] using he)
    have hq := hev x q hx (by simp [O.args])
    simp only [conv] at h3
    rw [Option.bind_eq_some_iff] at h3
    obtain ⟨cs, h4, h5⟩ := h3
    rw [Option.map_eq_some_iff] at h5
    obtain ⟨l, h6, rfl⟩ := h5
    obtain ⟨a, len, cap, hcv, hlen, hcells⟩ := slcells_ok hI hq (fun id off len z lo ex e => hp.r id (by simp [fpE, e])) h4
    obtain ⟨ns, rfl, rfl⟩ := toU8_ok h6
    refine ok_pure hI (c := .string (strOfNums ns)) ?_ (.cl _ _ (.str _ _ (by simp [strOfNums])))
    have hrun : (convert sd dd (ρ x)).run P s.w = .ok (.string (strOfNums ns)) s.w := by
      rw [hcv]
      simp at hlen
      rcases hcells with hz | ⟨g, off, arr, e', fr, rfl, hg, hle, hr⟩
      · simp at hz; subst hz; simp at hlen; subst hlen
        cases a with
        | none => exact Go.run_convert_bytes_nil s.w sd e hs hu8 0 cap dd hd
        | some a =>
          rw [Go.run_convert_bytes_string s.w sd dd e _ 0 cap hs hu8 hd, Go.run_bytesToString s.w a 0 cap [] (by simp [loadCells, loadCellsFrom])]
          rfl
      · refine Go.run_convert_bytes_arg s.w sd e hs hu8 g off len cap ns (by omega) (fun i hi => ?_) dd hd
        rw [cell_of hg]
        simp at hle
        have hlt : off + i < arr.size := by omega
        rw [Array.getElem?_eq_getElem hlt]
        have hi' : i < ns.length := by omega
        have := hr i (.int .u8 ns[i]) arr[off + i] (by simp [hi']) (Array.getElem?_eq_getElem hlt)
        rw [vr_int this]
        simp [List.getD_eq_getElem?_getD, hi']
    simp only [execOp, hop, Sem.run_bind, hrun, Result.andThen_ok, Sem.run_pure]
  
theorem ok_ia {ty : TypeId} {e : TypeId} {x i : Operand} (hop : oper.op = .indexAddr ty x i) (hu : P.underlying ty = some (.slice e)) (hI : Inv gl s) (hev : Hev gl s t o ρ) (hc : compOp P gl iso oper = some o)
    (he : opE inl call o t h = some (v, h')) : OkOp gl s h h' v ((execOp ρ oper).run P s.w) := by
  simp only [compOp, hop, hu] at hc
  split at hc
  · rename_i sz q1 q2 hsz h1 h2
    injection hc with hc; subst hc
    obtain ⟨h3, rfl⟩ := map_pair (by simpa only [opE] using he)
    have hx := hev x q1 h1 (by simp [O.args])
    have hi := hev i q2 h2 (by simp [O.args])
    unfold ia at h3
    split at h3
    · rename_i k n cs len ex e1 e2
      rw [e1] at hi; rw [e2] at hx
      split at h3
      · rename_i hb
        obtain ⟨hb1, hb2, hb3⟩ := hb
        injection h3 with h3; subst h3
        rcases vr_isl hx with ⟨_, rfl, _⟩ | ⟨g, off, arr, e', fr, cc, hcv, _, _, hg, hl, hr⟩
        · omega
        · refine ok_pure hI (c := .pointer (some ⟨g, off + n.toNat * sz, none⟩)) ?_ ?_
          · simp only [execOp, hop, Instr.indexAt, vr_int hi, asIntOf, Sem.run_bind, Sem.run_pure, Result.andThen_ok, r_und hu, hcv, if_pos (And.intro hb1 hb2), r_size hsz, add_plain]
          · refine .cl _ _ (.imm _ g (off + n.toNat * sz) arr e' fr hg (fun j hj => ?_) (fun j x y a b => ?_))
            · have := hl (n.toNat * sz + j) (by simp at hj; omega); omega
            · exact hr (n.toNat * sz + j) x y (by simpa using a) (by rw [← Nat.add_assoc]; exact b)
      · cases h3
    · rename_i k n id off len z lo ex e1 e2
      rw [e1] at hi; rw [e2] at hx
      split at h3
      · rename_i hb
        obtain ⟨hb1, hb2, hb3⟩ := hb
        injection h3 with h3; subst h3
        rcases vr_osl hx with ⟨l, cc, hM, hcv, _⟩ | ⟨hd, a, cc, hcv, hsp, _⟩
        · refine ok_pure hI (c := .pointer (some ⟨l.g, l.b + (off + n.toNat * sz), none⟩)) ?_ (.own _ _ l hM)
          simp only [execOp, hop, Instr.indexAt, vr_int hi, asIntOf, Sem.run_bind, Sem.run_pure, Result.andThen_ok, r_und hu, hcv, if_pos (And.intro hb1 hb2), r_size hsz, add_plain, Nat.add_assoc]
        · refine ok_pure hI (c := .pointer (some (a.add (n.toNat * sz)))) ?_ (.ownD _ _ _ hd ?_)
          · simp only [execOp, hop, Instr.indexAt, vr_int hi, asIntOf, Sem.run_bind, Sem.run_pure, Result.andThen_ok, r_und hu, hcv, if_pos (And.intro hb1 hb2), r_size hsz]
          · unfold Addr.add; split
            · exact hsp
            · rfl
      · cases h3
    · cases h3
  · cases hc

theorem ok_iaa {ty : TypeId} {n : Nat} {e : TypeId} {x i : Operand} (hop : oper.op = .indexAddr ty x i) (hu : P.underlying ty = some (.array n e)) (hI : Inv gl s) (hev : Hev gl s t o ρ) (hc : compOp P gl iso oper = some o)
    (he : opE inl call o t h = some (v, h')) : OkOp gl s h h' v ((execOp ρ oper).run P s.w) := by
  simp only [compOp, hop, hu] at hc
  split at hc
  · rename_i sz q1 q2 hsz h1 h2
    injection hc with hc; subst hc
    obtain ⟨h3, rfl⟩ := map_pair (by simpa only [opE] using he)
    have hx := hev x q1 h1 (by simp [O.args])
    have hi := hev i q2 h2 (by simp [O.args])
    unfold iaa at h3
    split at h3
    · rename_i k j cs e1 e2
      rw [e1] at hi; rw [e2] at hx
      split at h3
      · rename_i hb
        obtain ⟨hb1, hb2, hb3⟩ := hb
        injection h3 with h3; subst h3
        obtain ⟨g, off, arr, e', fr, hcv, hg, hl, hr⟩ := vr_imm hx
        have hmul : j.toNat * sz ≤ n * sz := Nat.mul_le_mul_right _ (by omega)
        refine ok_pure hI (c := .pointer (some ⟨g, off + j.toNat * sz, none⟩)) ?_ ?_
        · simp only [execOp, hop, Instr.indexAt, vr_int hi, asIntOf, Sem.run_bind, Sem.run_pure, Result.andThen_ok, r_und hu, hcv, Instr.sureAddr, if_pos (And.intro hb1 hb2), r_size hsz, add_plain]
        · refine .cl _ _ (.imm _ g (off + j.toNat * sz) arr e' fr hg (fun q hq => ?_) (fun q x y a b => ?_))
          · have := hl (j.toNat * sz + q) (by simp at hq; omega); omega
          · exact hr (j.toNat * sz + q) x y (by simpa using a) (by rw [← Nat.add_assoc]; exact b)
      · cases h3
    · rename_i k j id off e1 e2
      rw [e1] at hi; rw [e2] at hx
      split at h3
      · rename_i hb
        obtain ⟨hb1, hb2⟩ := hb
        injection h3 with h3; subst h3
        rcases vr_own hx with ⟨l, hM, hcv⟩ | ⟨hd, a, hcv, hsp⟩
        · refine ok_pure hI (c := .pointer (some ⟨l.g, l.b + (off + j.toNat * sz), none⟩)) ?_ (.own _ _ l hM)
          simp only [execOp, hop, Instr.indexAt, vr_int hi, asIntOf, Sem.run_bind, Sem.run_pure, Result.andThen_ok, r_und hu, hcv, Instr.sureAddr, if_pos (And.intro hb1 hb2), r_size hsz, add_plain, Nat.add_assoc]
        · refine ok_pure hI (c := .pointer (some (a.add (j.toNat * sz)))) ?_ (.ownD _ _ _ hd ?_)
          · simp only [execOp, hop, Instr.indexAt, vr_int hi, asIntOf, Sem.run_bind, Sem.run_pure, Result.andThen_ok, r_und hu, hcv, Instr.sureAddr, if_pos (And.intro hb1 hb2), r_size hsz]
          · unfold Addr.add; split
            · exact hsp
            · rfl
      · cases h3
    · cases h3
  · cases hc

theorem ok_ixs {ty : TypeId} {x i : Operand} (hop : oper.op = .index ty x i) (hu : P.underlying ty = some .string) (hI : Inv gl s) (hev : Hev gl s t o ρ) (hc : compOp P gl iso oper = some o)
    (he : opE inl call o t h = some (v, h')) : OkOp gl s h h' v ((execOp ρ oper).run P s.w) := by
  simp only [compOp, hop, hu] at hc
  split at hc
  · rename_i q1 q2 h1 h2
    injection hc with hc; subst hc
    obtain ⟨h3, rfl⟩ := map_pair (by simpa only [opE] using he)
    have hx := hev x q1 h1 (by simp [O.args])
    have hi := hev i q2 h2 (by simp [O.args])
    unfold ixs at h3
    split at h3
    · rename_i k j l e1 e2
      rw [e1] at hi; rw [e2] at hx
      split at h3
      · rename_i h0
        rw [Option.map_eq_some_iff] at h3
        obtain ⟨b, h4, rfl⟩ := h3
        refine ok_pure hI (c := .int .u8 b.toNat) ?_ (cint _ _)
        have hlt := (List.getElem?_eq_some_iff.1 h4).1
        have hget : (ByteArray.mk l.toArray)[j.toNat]? = some b := by
          have hsz : (ByteArray.mk l.toArray).size = l.length := by simp [ByteArray.size]
          rw [getElem?_pos _ _ (by rw [hsz]; exact hlt)]
          have := (List.getElem?_eq_some_iff.1 h4).2
          simp only [Option.some.injEq]
          rw [← this]; rfl
        simp only [execOp, hop, Instr.index, vr_int hi, asIntOf, Sem.run_bind, Sem.run_pure, Result.andThen_ok, r_und hu, vr_str' hx, if_pos h0, hget]
      · cases h3
    · cases h3
  · cases hc

theorem ok_ixa {ty : TypeId} {n : Nat} {e : TypeId} {x i : Operand} (hop : oper.op = .index ty x i) (hu : P.underlying ty = some (.array n e)) (hI : Inv gl s) (hev : Hev gl s t o ρ) (hc : compOp P gl iso oper = some o)
    (he : opE inl call o t h = some (v, h')) : OkOp gl s h h' v ((execOp ρ oper).run P s.w) := by
  simp only [compOp, hop, hu] at hc
  split at hc
  · rename_i sz hw q1 q2 hsz hhw h1 h2
    injection hc with hc; subst hc
    obtain ⟨h3, rfl⟩ := map_pair (by simpa only [opE] using he)
    have hx := hev x q1 h1 (by simp [O.args])
    have hi := hev i q2 h2 (by simp [O.args])
    unfold ixa at h3
    split at h3
    · rename_i k j cs e1 e2
      rw [e1] at hi; rw [e2] at hx
      split at h3
      · rename_i hb
        obtain ⟨arr, hcv, hn, hr⟩ := vr_agg hx
        obtain ⟨d, h4, h5⟩ := part_ok (P := P) (w := s.w) hn hr hhw h3
        refine ok_pure hI ?_ h5
        simp only [execOp, hop, Instr.index, vr_int hi, asIntOf, Sem.run_bind, Sem.run_pure, Result.andThen_ok, r_und hu, hcv, if_pos hb, r_size hsz, h4]
      · cases h3
    · cases h3
  · cases hc

/-- A call of a builtin with one argument. -/
theorem builtin1 {c : Call} {b : Builtin} {x : Operand} {ty : TypeId} {f : Array TypeId → TypeId → Array Value → Sem Value} (hop : oper.op = .call c) (hcal : c.callee = .builtin b) (ha : c.args.toList = [x]) (ht : c.argTypes.toList = [ty])
    (hb : ∀ a b' c' d, builtin b a b' c' d = (do pure (.value (← f a b' d)))) (w : World) : (execOp ρ oper).run P w = ((f #[ty] oper.type #[ρ x]).run P w).andThen fun a w' => .ok (.value a) w' := by
  have ha' : c.args = #[x] := by cases c with | mk a b d => cases b; simp at ha; subst ha; rfl
  have ht' : c.argTypes = #[ty] := by cases c with | mk a b d => cases d; simp at ht; subst ht; rfl
  simp only [execOp, hop, resolve, hcal, ha', ht', invoke, Sem.run_bind, Sem.run_pure, Result.andThen_ok, hb, List.map_toArray, List.map_cons, List.map_nil]

theorem ok_len {c : Call} {x : Operand} {ty : TypeId} (hop : oper.op = .call c) (hcal : c.callee = .builtin .len) (ha : c.args.toList = [x]) (ht : c.argTypes.toList = [ty]) (hI : Inv gl s) (hev : Hev gl s t o ρ)
    (hc : compOp P gl iso oper = some o) (he : opE inl call o t h = some (v, h')) (hp : Pre s h h' (fpE o t h)) : OkOp gl s h h' v ((execOp ρ oper).run P s.w) := by
  simp only [compOp, hop, hcal, ha, ht] at hc
  have hrun := fun w => builtin1 (P := P) (ρ := ρ) (b := .len) (f := Builtin.len_) hop hcal ha ht (fun _ _ _ _ => rfl) w
  split at hc
  · rename_i q hu hx
    injection hc with hc; subst hc
    obtain ⟨h3, rfl⟩ := map_pair (by simpa only [opE] using he)
    have hq := hev x _ hx (by simp [O.args])
    cases hqv : ev t q <;> rw [hqv] at h3 hq <;> simp only [lenS, Option.some.injEq] at h3 <;> try (cases h3; done)
    subst h3
    refine ok_pure hI ?_ (cint _ _)
    rw [hrun, vr_str' hq]
    simp only [Builtin.len_, List.getElem?_toArray, List.getElem?_cons_zero, Sem.run_bind, r_und hu, Result.andThen_ok, Sem.run_pure, goInt, ByteArray.size, List.size_toArray]
  · rename_i e q hu hx
    injection hc with hc; subst hc
    obtain ⟨h3, rfl⟩ := map_pair (by simpa only [opE] using he)
    have hq := hev x _ hx (by simp [O.args])
    have hsl : ∃ a n cc, ρ x = .slice a n cc ∧ v = .int .i64 n := by
      cases hqv : ev t q <;> rw [hqv] at h3 hq <;> simp only [lenV, Option.some.injEq] at h3 <;> try (cases h3; done)
      · exact ⟨_, _, _, vr_nils hq, h3.symm⟩
      · rcases vr_osl hq with ⟨l, cc, _, e, _⟩ | ⟨_, a, cc, e, _⟩
        · exact ⟨_, _, _, e, h3.symm⟩
        · exact ⟨_, _, _, e, h3.symm⟩
      · rcases vr_isl hq with ⟨_, rfl, a, cc, e, _⟩ | ⟨g, off, arr, e', fr, cc, e, _⟩
        · exact ⟨_, _, _, e, h3.symm⟩
        · exact ⟨_, _, _, e, h3.symm⟩
    obtain ⟨a, n, cc, e1, rfl⟩ := hsl
    refine ok_pure hI ?_ (cint _ _)
    rw [hrun, e1]
    simp only [Builtin.len_, List.getElem?_toArray, List.getElem?_cons_zero, Sem.run_bind, r_und hu, Result.andThen_ok, Sem.run_pure, goInt]
  · rename_i kt e q hu hx
    injection hc with hc; subst hc
    obtain ⟨h3, rfl⟩ := map_pair (by simpa only [opE] using he)
    have hq := hev x _ hx (by simp [O.args])
    cases hqv : ev t q <;> rw [hqv] at h3 hq <;> simp only [lenM, Option.some.injEq] at h3 <;> try (cases h3; done)
    · subst h3
      refine ok_pure hI ?_ (cint _ _)
      rw [hrun, vr_nilm hq]
      simp only [Builtin.len_, List.getElem?_toArray, List.getElem?_cons_zero, Sem.run_bind, r_und hu, Result.andThen_ok, Sem.run_pure, goInt]
    · rename_i id
      split at h3
      · rename_i m ks vs hh
        injection h3 with h3; subst h3
        have hag := hp.r id (by simp [fpE, hqv])
        rcases vr_omap hq with ⟨l, hM, e1⟩ | ⟨hd, g, e1⟩
        · obtain ⟨m', es, k, _, k1, k2, _⟩ := agr_map hI hM hag hh
          refine ok_pure hI ?_ (cint _ _)
          rw [hrun, e1]
          simp only [Builtin.len_, List.getElem?_toArray, List.getElem?_cons_zero, Sem.run_bind, r_und hu, Result.andThen_ok, getObj, Sem.run, k1, Sem.run_pure, goInt, k2]
        · have := agr_dead hd hag hh; cases this
      · cases h3
    · subst h3
      obtain ⟨g, es, k, e1, k1, k2, _⟩ := vr_imap hq
      refine ok_pure hI ?_ (cint _ _)
      rw [hrun, e1]
      simp only [Builtin.len_, List.getElem?_toArray, List.getElem?_cons_zero, Sem.run_bind, r_und hu, Result.andThen_ok, getObj, Sem.run, (St.rd_some.1 k1).2, Sem.run_pure, goInt, k2]
  · rename_i n e q hu hx
    injection hc with hc; subst hc
    simp only [opE, Option.some.injEq, Prod.mk.injEq] at he
    obtain ⟨rfl, rfl⟩ := he
    refine ok_pure hI ?_ (cint _ _)
    rw [hrun]
    simp only [Builtin.len_, List.getElem?_toArray, List.getElem?_cons_zero, Sem.run_bind, r_und hu, Result.andThen_ok, Sem.run_pure, goInt]
  · cases hc

/-! ### min, max -/

theorem min_fold (mx : Bool) : ∀ (l : List V) (l' : List Value) (x : V) (c : Value), l.length = l'.length → (∀ (i : Nat) (x : V) (y : Value), l[i]? = some x → l'[i]? = some y → s.vr x y) → s.vr x c →
    ∀ v, l.foldlM (fun x y => match x, y with
      | V.int k a, V.int j b => if k = j then some (V.int k (if mx then (if a < b then b else a) else (if b < a then b else a))) else none
      | _, _ => none) x = some v → ∀ w, ∃ d, (l'.foldlM (if mx then Builtin.max2 else Builtin.min2) c).run P w = .ok d w ∧ s.vr v d
  | [], l', x, c, hl, _, hx, v, hv, w => by
    obtain rfl : l' = [] := List.eq_nil_of_length_eq_zero (by simpa using hl.symm)
    simp at hv; subst hv
    exact ⟨c, by simp, hx⟩
  | y :: l, [], x, c, hl, _, _, _, _, _ => by simp at hl
  | y :: l, d :: l', x, c, hl, hr, hx, v, hv, w => by
    simp only [List.foldlM_cons, Option.bind_eq_bind, Option.bind_eq_some_iff] at hv
    obtain ⟨z, h1, h2⟩ := hv
    split at h1
    · rename_i k a j b
      split at h1
      · rename_i hk
        subst hk
        injection h1 with h1; subst h1
        have hy := hr 0 _ d rfl rfl
        rw [vr_int hx, vr_int hy]
        obtain ⟨e, h3, h4⟩ := min_fold mx l l' _ _ (by simpa using hl) (fun i x y a b => hr (i + 1) x y (by simpa using a) (by simpa using b)) (cint _ _) v h2 w
        refine ⟨e, ?_, h4⟩
        rw [List.foldlM_cons, Sem.run_bind]
        cases mx with
        | true => simp only [if_true, Builtin.max2, Sem.run_pure, Result.andThen_ok] at h3 ⊢; exact h3
        | false => simp only [Bool.false_eq_true, if_false, Builtin.min2, Sem.run_pure, Result.andThen_ok] at h3 ⊢; exact h3
      · cases h1
    · cases h1

theorem ok_minmax {c : Call} {mx : Bool} (hop : oper.op = .call c) (hcal : c.callee = .builtin (if mx then .max else .min)) (hI : Inv gl s) (hev : Hev gl s t o ρ)
    (hc : compOp P gl iso oper = some o) (he : opE inl call o t h = some (v, h')) : OkOp gl s h h' v ((execOp ρ oper).run P s.w) := by
  have hc' : (opds gl c.args.toList).map (.minmax mx) = some o := by
    cases mx <;> simpa only [compOp, hop, hcal, if_true, Bool.false_eq_true, if_false] using hc
  rw [Option.map_eq_some_iff] at hc'
  obtain ⟨qs, hx, rfl⟩ := hc'
  obtain ⟨h3, rfl⟩ := map_pair (by simpa only [opE] using he)
  obtain ⟨h1, h2⟩ := opds_ok (t := t) (ρ := ρ) hx (fun x q a b => hev x q a (by simpa [O.args] using b))
  have hargs : (c.args.map ρ).toList = c.args.toList.map ρ := by simp
  generalize hl : c.args.toList.map ρ = l' at hargs h2
  have hlen : (qs.map (ev t)).length = l'.length := by rw [← hl]; simpa using h1
  generalize hq : qs.map (ev t) = l at h3 hlen h2
  cases l with
  | nil => simp [minmax] at h3
  | cons x l =>
    cases l' with
    | nil => simp at hlen
    | cons d l' =>
      simp only [minmax] at h3
      obtain ⟨e, h4, h5⟩ := min_fold (P := P) mx l l' x d (by simpa using hlen) (fun i x y a b => h2 (i + 1) x y (by simpa using a) (by simpa using b)) (h2 0 x d rfl rfl) v h3 s.w
      refine ok_pure hI ?_ h5
      cases mx with
      | true =>
        simp only [if_true] at hcal h4
        have hb : (Builtin.max_ c.argTypes oper.type (c.args.map ρ)) = l'.foldlM Builtin.max2 d := by simp only [Builtin.max_, hargs]
        simp only [execOp, hop, resolve, hcal, invoke, builtin, Sem.run_bind, Sem.run_pure, Result.andThen_ok, hb, h4]
      | false =>
        simp only [Bool.false_eq_true, if_false] at hcal h4
        have hb : (Builtin.min_ c.argTypes oper.type (c.args.map ρ)) = l'.foldlM Builtin.min2 d := by simp only [Builtin.min_, hargs]
        simp only [execOp, hop, resolve, hcal, invoke, builtin, Sem.run_bind, Sem.run_pure, Result.andThen_ok, hb, h4]

/-! ### Slices of slices, of strings, of arrays -/

/-- One bound of a slice expression. -/
def ob (x : Option Value) (d y : Nat) (code : BoundsCode) : Sem Nat :=
  match x with
  | some v => Instr.sliceBound v y code
  | none => pure d

/-- An operand that may be absent, on both sides. -/
def OptRel (s : St) : Option V → Option Value → Prop
  | some a, some b => s.vr a b
  | none, none => True
  | _, _ => False

theorem bnd_ok {x : Option V} {c : Option Value} {d y n y' : Nat} {w : World} (hx : OptRel s x c) (hb : bnd x d y = some n) (hy : y ≤ y') (code : BoundsCode) :
    (ob c d y' code).run P w = .ok n w := by
  cases x with
  | none =>
    cases c with
    | none => simp only [bnd, Option.some.injEq] at hb; subst hb; rfl
    | some c => exact hx.elim
  | some a =>
    cases c with
    | none => exact hx.elim
    | some c =>
      cases a <;> simp only [bnd] at hb <;> try (cases hb; done)
      rename_i k i
      split at hb
      · rename_i hi
        injection hb with hb; subst hb
        have hc := vr_int (show s.vr _ c from hx)
        subst hc
        simp only [ob, Instr.sliceBound, asIntOf, Sem.run_bind, Sem.run_pure, Result.andThen_ok]
        rw [if_pos (by omega)]; rfl
      · cases hb

theorem bnd_le {x : Option V} {d y n : Nat} (hb : bnd x d y = some n) : (x = none ∧ n = d) ∨ (x ≠ none ∧ n ≤ y) := by
  cases x with
  | none => simp only [bnd, Option.some.injEq] at hb; exact .inl ⟨rfl, hb.symm⟩
  | some a =>
    cases a <;> simp only [bnd] at hb <;> try (cases hb; done)
    split at hb
    · injection hb with hb; subst hb; exact .inr ⟨by simp, by omega⟩
    · cases hb

theorem sb_run {isS : Bool} {len cap m u l : Nat} {lo hi mx : Option Value} {w : World} (hm : ∀ code, (ob mx cap cap code).run P w = .ok m w) (hh : ∀ code, (ob hi len m code).run P w = .ok u w) (hl : ∀ code, (ob lo 0 u code).run P w = .ok l w)
    (hc : mx = none ∨ hi ≠ none) : (Instr.sliceBounds isS len cap lo hi mx).run P w = .ok (l, u, m) w := by
  unfold Instr.sliceBounds
  cases mx with
  | none =>
    have hm' : cap = m := by have := hm .slice3B; simp [ob] at this; exact this
    subst hm'
    cases hi with
    | none =>
      have hh' : len = u := by have := hh .slice3B; simp [ob] at this; exact this
      subst hh'
      cases lo with
      | none => have := hl .slice3B; simp [ob] at this; subst this; simp
      | some v => have := hl .sliceB; simp [ob] at this; simp [this]
    | some v =>
      have h1 := fun code => hh code
      simp only [ob] at h1
      cases lo with
      | none => have := hl .slice3B; simp [ob] at this; subst this; simp [h1]
      | some v => have := hl .sliceB; simp [ob] at this; simp [h1, this]
  | some v =>
    have h0 := fun code => hm code
    simp only [ob] at h0
    cases hi with
    | none => exact absurd rfl (hc.resolve_left (by simp))
    | some v =>
      have h1 := fun code => hh code
      simp only [ob] at h1
      cases lo with
      | none => have := hl .slice3B; simp [ob] at this; subst this; simp [h0, h1]
      | some v => have := hl .slice3C; simp [ob] at this; simp [h0, h1, this]

/-- An operand that may be absent. -/
theorem opt_ok {x : Option Operand} {q : Option A} (h1 : optA gl x = some q) (hev : ∀ y a, opd gl y = some a → a ∈ q.toList → s.vr (ev t a) (ρ y)) : OptRel s (q.map (ev t)) (x.map ρ) := by
  cases x with
  | none => simp only [optA, Option.some.injEq] at h1; subst h1; trivial
  | some y =>
    simp only [optA, Option.map_eq_some_iff] at h1
    obtain ⟨a, h2, rfl⟩ := h1
    exact hev y a h2 (by simp)

theorem OptRel.none_iff {x : Option V} {c : Option Value} (h : OptRel s x c) : x = none ↔ c = none := by
  cases x <;> cases c <;> simp [OptRel] at h ⊢

theorem slc_ok {sz : Nat} {x : V} {c : Value} {lo hi mx : Option V} {lo' hi' mx' : Option Value} {ty e : TypeId} {w : World} (hu : P.underlying ty = some (.slice e)) (hsz : sizeB P e = some sz) (hx : s.vr x c) (h1 : OptRel s lo lo') (h2 : OptRel s hi hi') (h3 : OptRel s mx mx')
    (hc : mx = none ∨ hi ≠ none) (hb : slc sz x lo hi mx = some v) : ∃ d, (Instr.slice ty c lo' hi' mx').run P w = .ok d w ∧ s.vr v d := by
  have hc' : mx' = none ∨ hi' ≠ none := by
    rcases hc with h | h
    · exact .inl (h3.none_iff.1 h)
    · exact .inr (fun e => h (h2.none_iff.2 e))
  have run : ∀ (a : Option Addr) (len cap l u m : Nat), (Instr.sliceBounds true len cap lo' hi' mx').run P w = .ok (l, u, m) w →
      (Instr.slice ty (.slice a len cap) lo' hi' mx').run P w = .ok (.slice (if m = l then a else a.map (·.add (l * sz))) (u - l) (m - l)) w := by
    intro a len cap l u m hr
    simp only [Instr.slice, Sem.run_bind, r_und hu, Result.andThen_ok, hr, r_size hsz, Sem.run_pure]
  unfold slc at hb
  cases x with
  | nils =>
    simp only at hb
    split at hb
    · rename_i m u l e1 e2 e3
      injection hb with hb; subst hb
      have hm : m = 0 := by rcases bnd_le e1 with ⟨_, h⟩ | ⟨_, h⟩ <;> omega
      have hu' : u = 0 := by rcases bnd_le e2 with ⟨_, h⟩ | ⟨_, h⟩ <;> omega
      have hl : l = 0 := by rcases bnd_le e3 with ⟨_, h⟩ | ⟨_, h⟩ <;> omega
      subst hm hu' hl
      rw [vr_nils hx]
      exact ⟨_, run none 0 0 0 0 0 (sb_run (fun c => bnd_ok h3 e1 (Nat.le_refl _) c) (fun c => bnd_ok h2 e2 (Nat.le_refl _) c) (fun c => bnd_ok h1 e3 (Nat.le_refl _) c) hc'), .cl _ _ .nils⟩
    · cases hb
  | isl cs len ex =>
    simp only at hb
    split at hb
    · rename_i hlen
      split at hb
      · cases hb
      · rename_i m e1
        split at hb
        · cases hb
        · rename_i u e2
          split at hb
          · cases hb
          · rename_i l e3
            injection hb with hb; subst hb
            have hle : l ≤ u := by rcases bnd_le e3 with ⟨_, h⟩ | ⟨_, h⟩ <;> omega
            have hul : u ≤ len := by
              rcases bnd_le e2 with ⟨_, h⟩ | ⟨_, h⟩
              · omega
              · split at h <;> omega
            -- the cap as it is
            obtain ⟨a, cc, hcv, hlc, hexc, hbig⟩ : ∃ (a : Addr) (cc : Nat), c = .slice (some a) len cc ∧ len ≤ cc ∧ (∀ n, ex = some n → cc = n) ∧
                (0 < len → ∃ g off arr e fr, a = ⟨g, off, none⟩ ∧ s.rd g = some (.cells arr e fr) ∧ (∀ i, i < cs.length → off + i < arr.size) ∧ ∀ (i : Nat) (x : V) (y : Value), cs[i]? = some x → arr[off + i]? = some y → CRel s.rd x y) := by
              rcases vr_isl hx with ⟨_, rfl, a, cc, rfl, h⟩ | ⟨g, off, arr, e', fr, cc, rfl, h1, h2, h3, h4, h5⟩
              · exact ⟨a, cc, rfl, Nat.zero_le _, h, fun h => absurd h (by omega)⟩
              · exact ⟨_, cc, rfl, h1, h2, fun _ => ⟨g, off, arr, e', fr, rfl, h3, h4, h5⟩⟩
            subst hcv
            -- the bounds as the machine has them
            obtain ⟨mc, hmc, hmle, humc, hexm⟩ : ∃ mc, (∀ code, (ob mx' cc cc code).run P w = .ok mc w) ∧ mc ≤ cc ∧ (∀ code, (ob hi' len mc code).run P w = .ok u w) ∧ (u ≤ mc ∧ ∀ n, (if mx.isSome then some (m - l) else ex.map (· - l)) = some n → mc - l = n) := by
              cases hmx : mx with
              | none =>
                rw [hmx] at h3 e2
                have hn : mx' = none := h3.none_iff.1 rfl
                refine ⟨cc, fun code => by rw [hn]; rfl, Nat.le_refl _, fun code => bnd_ok h2 e2 (by simpa using hlc) code, by omega, fun n hn => ?_⟩
                simp only [Option.isSome_none, Bool.false_eq_true, if_false, Option.map_eq_some_iff] at hn
                obtain ⟨k, hk, rfl⟩ := hn
                rw [hexc k hk]
              | some q =>
                rw [hmx] at h3 e1 e2 hc
                have hmb : m ≤ cc := by
                  rcases bnd_le e1 with ⟨h, _⟩ | ⟨_, h⟩
                  · cases h
                  · cases ex with
                    | some k => rw [hexc k rfl]; exact h
                    | none => simp at h; omega
                have hle1 : ex.getD len ≤ cc := by
                  cases ex with
                  | some k => rw [hexc k rfl]; exact Nat.le_refl _
                  | none => exact hlc
                have hum : u ≤ m := by
                  rcases bnd_le e2 with ⟨h, _⟩ | ⟨_, h⟩
                  · exact absurd h (hc.resolve_left (by simp))
                  · simp at h; omega
                have hrunm : ∀ code, (ob mx' cc cc code).run P w = .ok m w := fun code => by
                  have := bnd_ok (P := P) (w := w) h3 e1 hle1 code
                  have hd : mx' ≠ none := fun e => by have := h3.none_iff.2 e; cases this
                  cases hmx' : mx' with
                  | none => exact absurd hmx' hd
                  | some z => rw [hmx'] at this; exact this
                refine ⟨m, hrunm, hmb, fun code => bnd_ok h2 e2 (by simp; omega) code, hum, fun n hn => ?_⟩
                simp at hn; omega
            have haddr : (if mc = l then some a else (some a).map (·.add (l * sz))) = some (if mc = l then a else a.add (l * sz)) := by split <;> rfl
            refine ⟨_, run (some a) len cc l u mc (sb_run hmc humc (fun code => bnd_ok h1 e3 (Nat.le_refl _) code) hc'), ?_⟩
            by_cases hz : u = l
            · subst hz
              simp only [Nat.sub_self, Nat.zero_mul, List.take_zero]
              rw [haddr]; exact .cl _ _ (.isl0 _ _ _ hexm.2)
            · obtain ⟨g, off, arr, e', fr, rfl, hg, hl, hr⟩ := hbig (by omega)
              have hne : ¬ (mc = l) := by omega
              rw [if_neg hne]
              simp only [Option.map_some, add_plain]
              have h5 : l * sz ≤ len * sz := Nat.mul_le_mul_right _ (by omega)
              have h6 : (u - l) * sz = u * sz - l * sz := Nat.sub_mul u l sz
              have h7 : u * sz ≤ len * sz := Nat.mul_le_mul_right _ hul
              refine .cl _ _ (.isl _ _ _ _ g (off + l * sz) arr e' fr (by omega) hexm.2 hg (fun i hi => ?_) (fun i x y a b => ?_))
              · simp at hi
                have := hl (l * sz + i) (by omega); omega
              · rw [List.getElem?_take] at a
                split at a
                · exact hr (l * sz + i) x y (by simpa using a) (by rw [← Nat.add_assoc]; exact b)
                · cases a
    · cases hb
  | osl id off len z cl ex =>
    simp only at hb
    split at hb
    · rename_i hcond
      obtain ⟨hzs, hlc⟩ := hcond
      subst hzs
      split at hb
      · cases hb
      · rename_i m e1
        split at hb
        · cases hb
        · rename_i u e2
          split at hb
          · cases hb
          · rename_i l e3
            have hle : l ≤ u := by rcases bnd_le e3 with ⟨_, h⟩ | ⟨_, h⟩ <;> omega
            obtain ⟨a, cc, hcv, hlocc, hexc⟩ : ∃ a cc, c = .slice (some a) len cc ∧ cl ≤ cc ∧ (ex = true → cc = cl) := by
              rcases vr_osl hx with ⟨lc, cc, _, rfl, h1, _, h3, _⟩ | ⟨_, a, cc, rfl, _, h1, _, h3⟩
              · exact ⟨_, cc, rfl, h1, h3⟩
              · exact ⟨_, cc, rfl, h1, h3⟩
            obtain ⟨mc, hmc, hmle, hmge, humc, hum, hexm⟩ : ∃ mc, (∀ code, (ob mx' cc cc code).run P w = .ok mc w) ∧ mc ≤ cc ∧ m ≤ mc ∧ (∀ code, (ob hi' len mc code).run P w = .ok u w) ∧ u ≤ m ∧ ((mx.isSome || ex) = true → mc = m) := by
              cases hmx : mx with
              | none =>
                rw [hmx] at h3 e1
                have hn : mx' = none := h3.none_iff.1 rfl
                have hm : m = cl := by rcases bnd_le e1 with ⟨_, h⟩ | ⟨h, _⟩
                                       · exact h
                                       · exact absurd rfl h
                subst hm
                have hum : u ≤ m := by rcases bnd_le e2 with ⟨_, h⟩ | ⟨_, h⟩ <;> omega
                exact ⟨cc, fun code => by rw [hn]; rfl, Nat.le_refl _, hlocc, fun code => bnd_ok h2 e2 hlocc code, hum, fun h => hexc (by simpa using h)⟩
              | some q =>
                rw [hmx] at h3 e1 hc
                have hmb : m ≤ cl := by
                  rcases bnd_le e1 with ⟨h, _⟩ | ⟨_, h⟩
                  · cases h
                  · exact h
                have hum : u ≤ m := by
                  rcases bnd_le e2 with ⟨h, _⟩ | ⟨_, h⟩
                  · exact absurd h (hc.resolve_left (by simp))
                  · exact h
                have hrunm : ∀ code, (ob mx' cc cc code).run P w = .ok m w := fun code => by
                  have := bnd_ok (P := P) (w := w) h3 e1 hlocc code
                  have hd : mx' ≠ none := fun e => by have := h3.none_iff.2 e; cases this
                  cases hmx' : mx' with
                  | none => exact absurd hmx' hd
                  | some z => rw [hmx'] at this; exact this
                exact ⟨m, hrunm, by omega, Nat.le_refl _, fun code => bnd_ok h2 e2 (Nat.le_refl _) code, hum, fun _ => rfl⟩
            subst hcv
            have hrun := run (some a) len cc l u mc (sb_run hmc humc (fun code => bnd_ok h1 e3 (Nat.le_refl _) code) hc')
            split at hb
            · rename_i hlm
              injection hb with hb; subst hb
              refine ⟨_, hrun, ?_⟩
              have : u = l := by omega
              subst this
              have haddr0 : (if mc = u then some a else (some a).map (·.add (u * z))) = some (if mc = u then a else a.add (u * z)) := by split <;> rfl
              rw [Nat.sub_self, haddr0]
              refine .cl _ _ (.isl0 _ _ _ (fun n hn => ?_))
              split at hn
              · rename_i hq; have := hexm hq; injection hn with hn; omega
              · cases hn
            · rename_i hlm
              injection hb with hb; subst hb
              refine ⟨_, hrun, ?_⟩
              have haddr : (if mc = l then some a else (some a).map (·.add (l * z))) = some (a.add (l * z)) := by
                by_cases hz : l = 0
                · subst hz
                  have e0 : a.add (0 * z) = a := by simp [Addr.add]
                  show (if mc = 0 then some a else some (a.add (0 * z))) = some (a.add (0 * z))
                  rw [e0]; split <;> rfl
                · rw [if_neg (by omega)]; rfl
              rw [haddr]
              have h6 : (mc - l) * z = mc * z - l * z := Nat.sub_mul mc l z
              have h7 : mc * z ≤ cc * z := Nat.mul_le_mul_right _ hmle
              have h8 : l * z ≤ mc * z := Nat.mul_le_mul_right _ (by omega)
              rcases vr_osl hx with ⟨lc, cc', hM, e1', _, _, _, hb⟩ | ⟨hd, a', cc', e1', hsp, _⟩
              · injection e1' with e1' _ e2'
                injection e1' with e1'
                subst e1' e2'
                rw [add_plain, Nat.add_assoc]
                exact .osl id (off + l * z) (u - l) z (m - l) _ (mc - l) lc hM (by omega) (by omega) (fun h => by rw [hexm h]) (by omega)
              · injection e1' with e1' _ e2'
                injection e1' with e1'
                subst e1' e2'
                refine .oslD id (off + l * z) (u - l) z (m - l) _ _ (mc - l) hd ?_ (by omega) (by omega) (fun h => by rw [hexm h])
                unfold Addr.add; split
                · exact hsp
                · rfl
    · cases hb
  | _ => simp at hb

end
end Go.Am
