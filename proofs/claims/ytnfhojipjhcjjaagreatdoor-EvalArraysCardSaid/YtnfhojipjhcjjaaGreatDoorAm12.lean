/-
  ONE OPERATION OF THE MACHINE DOES WHAT THE EVALUATOR SAYS, NINTH PART: append, clear. Conditions: as each lemma names them.
-/
import Derived.Test.YtnfhojipjhcjjaaGreatDoorAm11
namespace Go.Am
set_option autoImplicit false
set_option linter.unusedVariables false
set_option linter.unusedSimpArgs false

/-- An object that goes on under another name, from some cell on. -/
theorem Inv.move {gl : Nat → Option (List V)} {s : St} (hI : Inv gl s) (id nid off : Nat) (l : Loc) (cs : List V) (hM : s.M id = some l) (hG : s.G id = some (.blk true cs)) (hn : s.M nid = none) (hnG : s.G nid = none) (hoff : l.b + off ≤ l.x) :
    let s' : St := { s with G := setG (setG s.G id (some .dead)) nid (some (.blk true (cs.drop off))), M := setG (setG s.M id none) nid (some ⟨l.g, l.b + off, l.x⟩) }
    Inv gl s' ∧ Ext s s' := by
  intro s'
  have hne : id ≠ nid := fun hc => by subst hc; rw [hn] at hM; cases hM
  have hMn : s'.M nid = some ⟨l.g, l.b + off, l.x⟩ := by simp [s']
  have hMi : s'.M id = none := by simp [s', setG_ne _ _ hne]
  have hGn : s'.G nid = some (.blk true (cs.drop off)) := by simp [s']
  have hGi : s'.G id = some .dead := by simp [s', setG_ne _ _ hne]
  have hMo : ∀ i, i ≠ id → i ≠ nid → s'.M i = s.M i := fun i h1 h2 => by simp only [s', setG_ne _ _ h2, setG_ne _ _ h1]
  have hGo : ∀ i, i ≠ id → i ≠ nid → s'.G i = s.G i := fun i h1 h2 => by simp only [s', setG_ne _ _ h2, setG_ne _ _ h1]
  have hwr : ∀ g, s'.wr g ↔ s.wr g := fun g => by
    unfold St.wr
    refine or_congr Iff.rfl ⟨?_, ?_⟩
    · rintro ⟨i, li, h1, rfl, h2⟩
      by_cases hi : i = nid
      · subst hi; rw [hMn] at h1; injection h1 with h1; subst h1
        exact ⟨id, l, hM, rfl, _, hG, rfl⟩
      · by_cases hi2 : i = id
        · subst hi2; rw [hMi] at h1; cases h1
        · rw [hMo i hi2 hi] at h1; rw [hGo i hi2 hi] at h2; exact ⟨i, li, h1, rfl, h2⟩
    · rintro ⟨i, li, h1, rfl, h2⟩
      by_cases hi : i = id
      · subst hi; rw [hM] at h1; injection h1 with h1; subst h1
        exact ⟨nid, _, hMn, rfl, _, hGn, rfl⟩
      · by_cases hi2 : i = nid
        · subst hi2; rw [hn] at h1; cases h1
        · exact ⟨i, li, by rw [hMo i hi hi2]; exact h1, rfl, by rw [hGo i hi hi2]; exact h2⟩
  have hE : Ext s s' := by
    refine ⟨rfl, rfl, rfl, rfl, Nat.le_refl _, fun g x h => ?_, fun _ _ => rfl, fun i li h => ?_, fun i h => ?_⟩
    · rw [St.rd_some] at h ⊢; exact ⟨fun hc => h.1 ((hwr g).1 hc), h.2⟩
    · by_cases hi : i = id
      · subst hi; right; exact hGi
      · have hi2 : i ≠ nid := fun hc => by subst hc; rw [hn] at h; cases h
        left; rw [hMo i hi hi2]; exact h
    · have hi2 : i ≠ nid := fun hc => by subst hc; unfold St.dead at h; rw [hnG] at h; cases h
      by_cases hi : i = id
      · subst hi; exact hGi
      · unfold St.dead at h ⊢; rw [hGo i hi hi2]; exact h
  have hmut : isMut (s.G id) := ⟨_, hG, rfl⟩
  refine ⟨⟨fun i li m cs' h1 h2 => ?_, fun i li m ks vs h1 h2 => ?_, fun i li h1 => ?_, fun i j li lj h1 h2 h3 h4 => ?_, fun i li h => ?_, hI.fs, fun g cs h => hE.cr (hI.gls g cs h)⟩, hE⟩
  · by_cases hi : i = nid
    · subst hi; rw [hMn] at h1; injection h1 with h1; subst h1
      rw [hGn] at h2; injection h2 with h2; injection h2 with h2 h2'; subst h2 h2'
      obtain ⟨arr, e, fr, k1, k2, k3, k4, k5⟩ := hI.blk id l true cs hM hG
      refine ⟨arr, e, fr, k1, k2, by simp; omega, k4, fun j x y a b => hE.vr (k5 (off + j) x y (by simpa using a) (by rw [← Nat.add_assoc]; exact b))⟩
    · by_cases hi2 : i = id
      · subst hi2; rw [hMi] at h1; cases h1
      · rw [hMo i hi2 hi] at h1; rw [hGo i hi2 hi] at h2
        obtain ⟨arr, e, fr, k1, k2, k3, k4, k5⟩ := hI.blk i li m cs' h1 h2
        exact ⟨arr, e, fr, k1, k2, k3, k4, fun j x y a b => hE.vr (k5 j x y a b)⟩
  · by_cases hi : i = nid
    · subst hi; rw [hGn] at h2; cases h2
    · by_cases hi2 : i = id
      · subst hi2; rw [hMi] at h1; cases h1
      · rw [hMo i hi2 hi] at h1; rw [hGo i hi2 hi] at h2
        obtain ⟨es, k, k1, k2, k3, k4, k5⟩ := hI.map i li m ks vs h1 h2
        exact ⟨es, k, k1, k2, k3, fun j x y a b => hE.vr (k4 j x y a b), fun j x y a b => hE.vr (k5 j x y a b)⟩
  · by_cases hi : i = nid
    · subst hi; exact ⟨_, hGn, by simp⟩
    · by_cases hi2 : i = id
      · subst hi2; rw [hMi] at h1; cases h1
      · rw [hMo i hi2 hi] at h1; rw [hGo i hi2 hi]; exact hI.has i li h1
  · by_cases hi : i = nid <;> by_cases hj : j = nid
    · rw [hi, hj]
    · subst hi; rw [hMn] at h1; injection h1 with h1; subst h1
      by_cases hj2 : j = id
      · subst hj2; rw [hMi] at h2; cases h2
      · rw [hMo j hj2 hj] at h2
        exact absurd (hI.inj id j l lj hM h2 h3 hmut).symm hj2
    · subst hj; rw [hMn] at h2; injection h2 with h2; subst h2
      by_cases hi2 : i = id
      · subst hi2; rw [hMi] at h1; cases h1
      · rw [hMo i hi2 hi] at h1
        exact absurd (hI.inj id i l li hM h1 h3.symm hmut).symm hi2
    · by_cases hi2 : i = id
      · subst hi2; rw [hMi] at h1; cases h1
      · by_cases hj2 : j = id
        · subst hj2; rw [hMi] at h2; cases h2
        · rw [hMo i hi2 hi] at h1; rw [hMo j hj2 hj] at h2; rw [hGo i hi2 hi] at h4
          exact hI.inj i j li lj h1 h2 h3 h4
  · by_cases hi : i = nid
    · subst hi; rw [hMn] at h; injection h with h; subst h; exact hI.nf id l hM
    · by_cases hi2 : i = id
      · subst hi2; rw [hMi] at h; cases h
      · rw [hMo i hi2 hi] at h; exact hI.nf i li h

section
variable {P : Program} {gl : Nat → Option (List V)} {inl : FuncId → Bool} {call : CallF} {s : St} {h h' : H} {t : T} {v : V} {o : O} {oper : Oper} {ρ : Operand → Value} {iso : Bool}

/-- What is appended. -/
theorem appended_ok {sz n : Nat} {x : V} {c : Value} {xs : List V} (hI : Inv gl s) (hx : s.vr x c) (hsz : 0 < sz) (ha : ∀ id off len z lo ex, x = .osl id off len z lo ex → s.G id ≠ none → (s.G id).map Ob.frozen = (h[id]?).map Ob.frozen)
    (hr : appended h sz x = some xs) (hn : xs.length = n * sz) :
    ∃ new : Array Value, Cells s xs new ∧ (∀ w, (Builtin.lenOf c).run P w = .ok n w) ∧ ∀ m, (Builtin.firstCells sz n c).run P { s.w with drawn := m } = .ok new { s.w with drawn := m } := by
  have slice : slcells h sz x = some xs → ∃ new : Array Value, Cells s xs new ∧ (∀ w, (Builtin.lenOf c).run P w = .ok n w) ∧ ∀ m, (Builtin.firstCells sz n c).run P { s.w with drawn := m } = .ok new { s.w with drawn := m } := by
    intro hr
    obtain ⟨a, len, cap, rfl, hlen, hcells⟩ := slcells_ok hI hx ha hr
    have hln : len = n := Nat.eq_of_mul_eq_mul_right hsz (by omega)
    subst hln
    have hcell0 : len * sz = 0 → ∀ m, (Builtin.firstCells sz len (.slice a len cap)).run P { s.w with drawn := m } = .ok #[] { s.w with drawn := m } := fun h0 m => by
      cases a with
      | none => simp [Builtin.firstCells]
      | some a => simp [Builtin.firstCells, h0, loadCells, loadCellsFrom]
    rcases hcells with rfl | ⟨g, off, arr, e, fr, rfl, hg, hle, hr2⟩
    · exact ⟨#[], ⟨rfl, fun i x y a => by simp at a⟩, fun w => by simp [Builtin.lenOf], hcell0 (by simpa using hlen.symm)⟩
    · refine ⟨arr.extract off (off + len * sz), ⟨by simp; omega, fun i x y a b => ?_⟩, fun w => by simp [Builtin.lenOf], fun m => ?_⟩
      · rw [Array.getElem?_extract] at b
        split at b
        · exact hr2 i x y a b
        · cases b
      · simp only [Builtin.firstCells]
        exact r_loadCells (w := { s.w with drawn := m }) hg (by omega)
  cases x with
  | str l =>
    simp only [appended] at hr
    split at hr
    · rename_i h1
      subst h1
      injection hr with hr; subst hr
      have hv := vr_str' hx
      subst hv
      have hl : l.length = n := by simpa [ofU8] using hn
      subst hl
      refine ⟨(ByteArray.mk l.toArray).data.map fun b => .int .u8 b.toNat, ⟨by simp [ofU8], fun i x y a b => ?_⟩, fun w => by simp [Builtin.lenOf, ByteArray.size], fun m => ?_⟩
      · simp only [ofU8, List.getElem?_map, Option.map_eq_some_iff] at a
        obtain ⟨u, hu, rfl⟩ := a
        have hlt := (List.getElem?_eq_some_iff.1 hu).1
        obtain ⟨_, hu⟩ := List.getElem?_eq_some_iff.1 hu
        simp [hlt, hu] at b
        subst b
        exact .cl _ _ (.int .u8 _)
      · have : (ByteArray.mk l.toArray).extract 0 l.length = ByteArray.mk l.toArray := by
          apply ByteArray.ext
          simp
        simp only [Builtin.firstCells, this, Sem.run_pure]
    · cases hr
  | _ => exact slice (by simpa only [appended] using hr)

/-- 'append' into the room that there is. -/
theorem run_app_in {st xt ty e : TypeId} {i : TypeInfo} {base : Option Addr} {sLen sCap n : Nat} {c : Value} {new : Array Value} {w : World} (hu : P.underlying st = some (.slice e)) (hx : (∃ f, P.underlying xt = some (.slice f)) ∨ P.underlying xt = some .string) (hi : P.info? e = some i)
    (hl : ∀ w, (Builtin.lenOf c).run P w = .ok n w) (hf : (Builtin.firstCells i.size n c).run P w = .ok new w) (hle : sLen + n ≤ sCap) :
    (Builtin.append_ #[st, xt] ty #[.slice base sLen sCap, c]).run P w = ((match base with | some a => storeCells (a.add (sLen * i.size)) new.toList | none => pure ()).run P w).andThen fun _ w' => .ok (.slice base (sLen + n) sCap) w' := by
  have hz : ((underlying xt).run P w).andThen (fun d w' => (.ok (d matches .int _) w' : Result Bool)) = .ok false w := by
    rcases hx with ⟨f, h⟩ | h <;> simp [r_und h]
  rcases hx with ⟨f, hx⟩ | hx <;>
  · simp only [Builtin.append_, List.getElem?_toArray, List.getElem?_cons_zero, List.getElem?_cons_succ, Sem.run_bind, r_und hu, r_und hx, Result.andThen_ok, sizeOf, r_info hi, Sem.run_pure, Bool.false_eq_true, if_false, hl, if_pos hle, Bool.not_false, if_true, hf]
    cases base <;> first | rfl | simp only [Sem.run_bind, Sem.run_pure]

/-- 'append' into new room. -/
theorem run_app_new {st xt ty e : TypeId} {i : TypeInfo} {zv : Value} {base : Option Addr} {sLen sCap n : Nat} {c : Value} {old new : Array Value} {w : World} (hu : P.underlying st = some (.slice e)) (hx : (∃ f, P.underlying xt = some (.slice f)) ∨ P.underlying xt = some .string) (hi : P.info? e = some i) (hz : i.zero = some zv)
    (hl : ∀ w, (Builtin.lenOf c).run P w = .ok n w) (hf : (Builtin.firstCells i.size n c).run P w.drew = .ok new w.drew) (hfo : (Builtin.firstCells i.size sLen (.slice base sLen sCap)).run P w.drew = .ok old w.drew) (hgt : sCap < sLen + n) (hb : 0 < i.bytes) (hroom : (sLen + n) * i.bytes ≤ 140737488355328) :
    (Builtin.append_ #[st, xt] ty #[.slice base sLen sCap, c]).run P w = .ok (.slice (some ⟨w.heap.size, 0, none⟩) (sLen + n) (grownCap w (sLen + n) sCap e))
      (w.drew.alloc (.cells (old ++ new ++ Builtin.zeroCells zv.cells (grownCap w (sLen + n) sCap e - (sLen + n))) e)) := by
  have hn : ¬ (sLen + n ≤ sCap) := by omega
  have hfit := growslice_fits hgt hroom
  have h48 : ¬ (281474976710656 < Builtin.nextslicecap (sLen + n) sCap * i.bytes) := by omega
  have hb0 : i.bytes ≠ 0 := by omega
  rcases hx with ⟨f, hx⟩ | hx <;>
  · simp [Builtin.append_, r_und hu, r_und hx, sizeOf, zeroValue, r_info hi, hz, hl, hn, h48, hb0, Question.forced, hf, hfo, newRow, grownCap]

theorem builtin2 {c : Call} {b : Builtin} {x y : Operand} {ty ty' : TypeId} {f : Array TypeId → TypeId → Array Value → Sem Value} (hop : oper.op = .call c) (hcal : c.callee = .builtin b) (ha : c.args.toList = [x, y]) (ht : c.argTypes.toList = [ty, ty'])
    (hb : ∀ a b' c' d, builtin b a b' c' d = (do pure (.value (← f a b' d)))) (w : World) : (execOp ρ oper).run P w = ((f #[ty, ty'] oper.type #[ρ x, ρ y]).run P w).andThen fun a w' => .ok (.value a) w' := by
  have ha' : c.args = #[x, y] := by cases c with | mk a b d => cases b; simp at ha; subst ha; rfl
  have ht' : c.argTypes = #[ty, ty'] := by cases c with | mk a b d => cases d; simp at ht; subst ht; rfl
  simp only [execOp, hop, resolve, hcal, ha', ht', invoke, Sem.run_bind, Sem.run_pure, Result.andThen_ok, hb, List.map_toArray, List.map_cons, List.map_nil]

/-- What 'append' into new room leads to. -/
theorem app_new {st xt ty e : TypeId} {i : TypeInfo} {zv : Value} {base : Option Addr} {sLen sCap n : Nat} {c : Value} {old new : Array Value} {cs xs : List V} {r : Result Next} (hI : Inv gl s) (hp : s.M h.length = none ∧ s.G h.length = none)
    (hu : P.underlying st = some (.slice e)) (hx : (∃ f, P.underlying xt = some (.slice f)) ∨ P.underlying xt = some .string) (hi : P.info? e = some i) (hz : i.zero = some zv) (hzs : zv.cells.size = i.size)
    (hl : ∀ w, (Builtin.lenOf c).run P w = .ok n w) (hf : ∀ m, (Builtin.firstCells i.size n c).run P { s.w with drawn := m } = .ok new { s.w with drawn := m })
    (hfo : ∀ m, (Builtin.firstCells i.size sLen (.slice base sLen sCap)).run P { s.w with drawn := m } = .ok old { s.w with drawn := m }) (hgt : sCap < sLen + n) (hb : 0 < i.bytes) (hroom : (sLen + n) * i.bytes ≤ 140737488355328)
    (hco : Cells s cs old) (hcn : Cells s xs new) (h1 : cs.length = sLen * i.size) (h2 : xs.length = n * i.size)
    (hr : r = ((Builtin.append_ #[st, xt] ty #[.slice base sLen sCap, c]).run P s.w).andThen fun a w' => .ok (.value a) w') :
    OkOp gl s h (news h (cs ++ xs)) (.osl h.length 0 (sLen + n) i.size (sLen + n) false) r := by
  have hrun := run_app_new (P := P) (ty := ty) (w := s.w) hu hx hi hz hl (hf _) (hfo _) hgt hb hroom
  rw [hrun] at hr
  have hge := grownCap_ge s.w (sLen + n) sCap e
  generalize grownCap s.w (sLen + n) sCap e = nc at *
  have hasz : (old ++ new ++ Builtin.zeroCells zv.cells (nc - (sLen + n))).size = nc * i.size := by
    simp only [Array.size_append, Builtin.zeroCells, Array.size_map, Array.size_range, ← hco.1, ← hcn.1, h1, h2, hzs]
    rw [← Nat.add_mul, ← Nat.add_mul]
    congr 1; omega
  have hle : (cs ++ xs).length ≤ nc * i.size := by
    rw [List.length_append, h1, h2, ← Nat.add_mul]
    exact Nat.mul_le_mul_right _ hge
  refine new_ok (n := s.w.drawn + 1) (e := e) hI hp rfl (by rw [hasz]; exact hle) (fun j x y a b => ?_) hr (fun s' hm => ?_)
  · rw [Array.append_assoc, Array.getElem?_append] at b
    rw [List.getElem?_append] at a
    rw [← hco.1] at b
    split at b
    · rename_i hlt; rw [if_pos hlt] at a; exact hco.2 _ _ _ a b
    · rename_i hlt
      rw [if_neg hlt] at a
      have := (List.getElem?_eq_some_iff.1 a).1
      rw [Array.getElem?_append, if_pos (by rw [← hcn.1]; exact this)] at b
      exact hcn.2 _ _ _ a b
  · exact VRel.osl (rd := s'.rd) (M := s'.M) (D := s'.dead) h.length 0 (sLen + n) i.size (sLen + n) false nc _ hm hge (Nat.le_refl _) (fun hc => by cases hc) (by rw [hasz]; simp)

theorem vr_osl_dead {s s' : St} (hE : Ext s s') {v : V} {c : Value} (h : s.vr v c) : s'.vr v c := hE.vr h

theorem upd_kill_news {G : Nat → Option Ob} {id : Nat} {x o0 : Ob} (hh : h[id]? = some o0) (ho : o0 ≠ .dead) : setG (setG G id (some .dead)) h.length (some x) = upd G h (h.set id .dead ++ [x]) := by
  have hlt := (List.getElem?_eq_some_iff.1 hh).1
  funext i
  unfold setG upd
  by_cases h1 : i = h.length
  · subst h1; simp
  · rw [if_neg h1]
    by_cases h2 : i = id
    · subst h2
      rw [if_pos rfl, List.getElem?_append_left (by simpa using hlt), List.getElem?_set_self hlt, hh]
      rw [if_neg (fun hc => ho (by injection hc with hc; exact hc.symm))]
    · rw [if_neg h2]
      by_cases h3 : i < h.length
      · rw [List.getElem?_append_left (by simpa using h3), List.getElem?_set_ne (Ne.symm h2)]; simp
      · rw [List.getElem?_eq_none (by simp; omega), List.getElem?_eq_none (by omega)]; simp

theorem ok_app {c : Call} {sx xx : Operand} {st xt e : TypeId} (hop : oper.op = .call c) (hcal : c.callee = .builtin .append) (ha : c.args.toList = [sx, xx]) (ht : c.argTypes.toList = [st, xt]) (hu : P.underlying st = some (.slice e)) (hx : (∃ f, P.underlying xt = some (.slice f)) ∨ P.underlying xt = some .string)
    {i : TypeInfo} {z : List V} {q1 q2 : A} (hi : P.info? e = some i) (hz : zeroB P e = some z) (hq1 : opd gl sx = some q1) (hq2 : opd gl xx = some q2) (hpos : z.length = i.size ∧ 0 < i.size ∧ 0 < i.bytes)
    (hI : Inv gl s) (hev : Hev gl s t (.app i.size i.bytes q1 q2) ρ) (he : opE inl call (.app i.size i.bytes q1 q2) t h = some (v, h')) (hp : Pre s h h' (fpE (.app i.size i.bytes q1 q2) t h)) : OkOp gl s h h' v ((execOp ρ oper).run P s.w) := by
  have hrun := builtin2 (P := P) (ρ := ρ) (b := .append) (f := Builtin.append_) hop hcal ha ht (fun _ _ _ _ => rfl) s.w
  obtain ⟨i', zv, hi', hzv, hzr, hzc, hzo, hzl⟩ := zero_ok hz s s.w
  rw [hi] at hi'; injection hi' with hi'; subst hi'
  have hzs : zv.cells.size = i.size := by rw [← hzc.1, hpos.1]
  have hs := hev sx q1 hq1 (by simp [O.args])
  have hxx := hev xx q2 hq2 (by simp [O.args])
  obtain ⟨hzlen, hsz, hby⟩ := hpos
  simp only [opE, app] at he
  split at he
  · cases he
  · rename_i xs hap
    generalize hn : xs.length / i.size = n at he
    split at he
    · rename_i hcond
      obtain ⟨_, hxl, hone⟩ := hcond
      have hreadx : ∀ id off len z lo ex, ev t q2 = .osl id off len z lo ex → s.G id ≠ none → (s.G id).map Ob.frozen = (h[id]?).map Ob.frozen := fun id off len z lo ex e => hp.r id (by
        simp only [fpE, e, oslId]
        split
        · split
          · split
            · simp
            · simp
          · simp
        · simp)
      obtain ⟨new, hcn, hlen, hfc⟩ := appended_ok (P := P) hI hxx hsz hreadx hap hxl
      have hnone : ∀ y ∈ new.toList, y.oneCell' = true := fun y hy => by
        rw [Array.mem_toList_iff, Array.mem_iff_getElem?] at hy
        obtain ⟨j, hj⟩ := hy
        have hlt : j < xs.length := by rw [hcn.1]; exact (Array.getElem?_eq_some_iff.1 hj).1
        have hone := List.all_eq_true.1 hone _ (List.getElem_mem hlt)
        exact one_rel (hcn.2 j _ y (List.getElem?_eq_getElem hlt) hj) hone (fun hc => by rw [hc] at hone; cases hone)
      -- nothing is appended
      have zero : n = 0 → ∀ (base : Option Addr) (len cap : Nat), ρ sx = .slice base len cap → len ≤ cap → (execOp ρ oper).run P s.w = .ok (.value (.slice base len cap)) s.w := fun h0 base len cap e hle => by
        subst h0
        have hnew : new.toList = [] := by
          have := hcn.1; rw [hxl] at this; simp at this
          exact List.length_eq_zero_iff.1 (by simpa using this.symm)
        rw [hrun, e, run_app_in hu hx hi hlen (by simpa using hfc s.w.drawn) (by omega), hnew]
        cases base <;> simp [storeCells]
      split at he
      · -- the nil slice
        rename_i hq
        rw [hq] at hs
        have hsv := vr_nils hs
        split at he
        · rename_i h0
          simp only [Option.some.injEq, Prod.mk.injEq] at he
          obtain ⟨rfl, rfl⟩ := he
          exact ok_pure hI (zero h0 none 0 0 hsv (Nat.le_refl _)) (.cl _ _ .nils)
        · rename_i h0
          split at he
          · rename_i hroom
            simp only [Option.some.injEq, Prod.mk.injEq] at he
            obtain ⟨rfl, rfl⟩ := he
            have := app_new (P := P) (s := s) (h := h) (ty := oper.type) (base := none) (sLen := 0) (sCap := 0) (old := #[]) (cs := []) (r := (execOp ρ oper).run P s.w) hI hp.new hu hx hi hzv hzs hlen hfc (fun m => by simp [Builtin.firstCells]) (by omega) hby (by simpa using hroom)
              ⟨rfl, fun i x y a => by simp at a⟩ hcn (by simp) hxl (by rw [hrun, hsv])
            simpa using this
          · cases he
      · -- a slice that never changes
        rename_i cs len ex hq
        rw [hq] at hs
        split at he
        · rename_i hcl
          split at he
          · rename_i h0
            simp only [Option.some.injEq, Prod.mk.injEq] at he
            obtain ⟨rfl, rfl⟩ := he
            rcases vr_isl hs with ⟨rfl, rfl, a, cc, e1, _⟩ | ⟨g, off, arr, e, fr, cc, e1, hlc, _⟩
            · exact ok_pure hI (zero h0 a 0 cc e1 (Nat.zero_le _)) (e1 ▸ hs)
            · exact ok_pure hI (zero h0 _ len cc e1 hlc) (e1 ▸ hs)
          · rename_i h0
            split at he
            · rename_i cap
              split at he
              · rename_i hc2
                simp only [Option.some.injEq, Prod.mk.injEq] at he
                obtain ⟨rfl, rfl⟩ := he
                rcases vr_isl hs with ⟨rfl, rfl, a, cc, e1, hexc⟩ | ⟨g, off, arr, e', fr, cc, e1, hlc, hexc, hg, hl', hr'⟩
                · refine app_new (P := P) (ty := oper.type) (base := a) (sLen := 0) (sCap := cc) (old := #[]) (cs := []) hI hp.new hu hx hi hzv hzs hlen hfc (fun m => ?_) (by rw [hexc _ rfl]; omega) hby hc2.2.1 ⟨rfl, fun i x y a => by simp at a⟩ hcn (by simp) hxl (by rw [hrun, e1])
                  cases a <;> simp [Builtin.firstCells, loadCells, loadCellsFrom]
                · rcases Nat.eq_zero_or_pos len with hl0 | hl0
                  · subst hl0
                    have hcs : cs = [] := List.length_eq_zero_iff.1 (by simpa using hcl)
                    subst hcs
                    refine app_new (P := P) (ty := oper.type) (base := some ⟨g, off, none⟩) (sLen := 0) (sCap := cc) (old := #[]) (cs := []) hI hp.new hu hx hi hzv hzs hlen hfc (fun m => ?_) (by rw [hexc _ rfl]; omega) hby hc2.2.1 ⟨rfl, fun i x y a => by simp at a⟩ hcn (by simp) hxl (by rw [hrun, e1])
                    simp [Builtin.firstCells, loadCells, loadCellsFrom]
                  · have hpos' : 0 < cs.length := by rw [hcl]; exact Nat.mul_pos hl0 hsz
                    have hle : off + cs.length ≤ arr.size := by have := hl' (cs.length - 1) (by omega); omega
                    refine app_new (P := P) (ty := oper.type) (base := some ⟨g, off, none⟩) (sLen := len) (sCap := cc) (old := arr.extract off (off + len * i.size)) (cs := cs) hI hp.new hu hx hi hzv hzs hlen hfc (fun m => ?_) (by rw [hexc _ rfl]; omega) hby hc2.2.1 ⟨by simp; omega, fun j x y a b => ?_⟩ hcn hcl hxl (by rw [hrun, e1])
                    · simp only [Builtin.firstCells]
                      exact r_loadCells (w := { s.w with drawn := m }) (St.rd_some.1 hg).2 (by omega)
                    · rw [Array.getElem?_extract] at b
                      split at b
                      · exact .cl _ _ (hr' j x y a b)
                      · cases b
              · cases he
            · cases he
        · cases he
      · -- a slice of an object
        rename_i id off len z lo ex hq
        rw [hq] at hs
        split at he
        · rename_i hc1
          obtain ⟨rfl, hlo, hroom⟩ := hc1
          split at he
          · rename_i m cs hh
            split at he
            · rename_i hin
              have hsv : ∃ a cc, ρ sx = .slice (some a) len cc ∧ lo ≤ cc := by
                rcases vr_osl hs with ⟨l, cc, _, e1, h1, _⟩ | ⟨_, a, cc, e1, _, h1, _⟩
                · exact ⟨_, cc, e1, h1⟩
                · exact ⟨_, cc, e1, h1⟩
              split at he
              · rename_i hfit
                split at he
                · rename_i h0
                  simp only [Option.some.injEq, Prod.mk.injEq] at he
                  obtain ⟨rfl, rfl⟩ := he
                  obtain ⟨a, cc, e1, h1⟩ := hsv
                  exact ok_pure hI (zero h0 _ len cc e1 (by omega)) (e1 ▸ hs)
                · rename_i h0
                  split at he
                  · rename_i hm
                    subst hm
                    simp only [Option.some.injEq, Prod.mk.injEq] at he
                    obtain ⟨rfl, rfl⟩ := he
                    have hag := hp.w id (by simp only [fpE, hq, hap, hn]; rw [if_pos (.inl ⟨hfit, h0⟩)]; simp)
                    rcases vr_osl hs with ⟨l, cc, hM, e1, h1, h2, h3, h4⟩ | ⟨hd, _⟩
                    · have hG := agr_mut hI hM hag hh
                      obtain ⟨arr, e', fr, hg, hasz, hle, hfr, hr⟩ := hI.blk id l true cs hM hG
                      have := hfr rfl; subst this
                      have hmul : (len + n) * i.size = len * i.size + n * i.size := Nat.add_mul _ _ _
                      have hmul2 : (len + n) * i.size ≤ lo * i.size := Nat.mul_le_mul_right _ hfit
                      have hnl : new.toList.length = n * i.size := by rw [Array.length_toList, ← hcn.1, hxl]
                      obtain ⟨w', arr', k1, k2, k3, k4, k5, k6, k7, k8, k9⟩ := r_storeCells (P := P) (g := l.g) (o := l.b + off + len * i.size) (e := e') new.toList 0 arr s.w hg hnone (by rw [hnl]; omega)
                      refine write_ok (w' := w') (c := .slice (some ⟨l.g, l.b + off, none⟩) (len + n) cc) hI hM hG rfl rfl hh ?_ (.inl rfl) k5 k6 k7 k8 k9 (fun cs' e' => ?_) (fun _ _ e' => by cases e') (fun s' hM' => ?_)
                      · rw [hrun, e1, run_app_in hu hx hi hlen (by simpa using hfc s.w.drawn) (by omega)]
                        simp only [add_plain, k1, Result.andThen_ok]
                      · injection e' with _ e'; subst e'
                        refine ⟨arr', _, k2, by omega, by rw [splice_len (by omega)]; exact hle, fun j y z aa bb => ?_⟩
                        rw [splice_get (by omega)] at aa
                        rw [k4, hnl, Nat.add_zero] at bb
                        by_cases hj : off + len * i.size ≤ j ∧ j < off + len * i.size + xs.length
                        · rw [if_pos hj] at aa
                          rw [if_pos (by omega), show l.b + j - (l.b + off + len * i.size) = j - (off + len * i.size) from by omega] at bb
                          exact hcn.2 _ _ _ aa (by simpa using bb)
                        · rw [if_neg hj] at aa
                          rw [if_neg (by omega)] at bb
                          exact hr _ _ _ aa bb
                      · exact VRel.osl (rd := s'.rd) (M := s'.M) (D := s'.dead) id off (len + n) i.size lo ex cc l (by rw [hM']; exact hM) h1 hfit h3 h4
                    · have := dead_mut hd hag hh; cases this
                  · cases he
              · rename_i hfit
                -- the cells as they are
                have hcells : ∀ (G' : Nat → Option Ob) (l : Loc) (cc : Nat) (arr : Array Value) (fr : Nat × Nat) (e' : TypeId), s.w.heap[l.g]? = some (.cells arr e' fr) → arr.size = l.x → l.b + cs.length ≤ l.x → (∀ (i : Nat) (x : V) (y : Value), cs[i]? = some x → arr[l.b + i]? = some y → s.vr x y) →
                    Cells s ((cs.drop off).take (len * i.size)) (arr.extract (l.b + off) (l.b + off + len * i.size)) ∧ ∀ m, (Builtin.firstCells i.size len (.slice (some ⟨l.g, l.b + off, none⟩) len cc)).run P { s.w with drawn := m } = .ok (arr.extract (l.b + off) (l.b + off + len * i.size)) { s.w with drawn := m } := by
                  intro G' l cc arr fr e' hg hasz hle hr
                  have hml : len * i.size ≤ lo * i.size := Nat.mul_le_mul_right _ hlo
                  refine ⟨⟨by simp; omega, fun j x y a b => ?_⟩, fun m => ?_⟩
                  · rw [List.getElem?_take] at a
                    split at a
                    · rw [Array.getElem?_extract] at b
                      split at b
                      · exact hr (off + j) x y (by simpa using a) (by rw [← Nat.add_assoc]; exact b)
                      · cases b
                    · cases a
                  · simp only [Builtin.firstCells]
                    exact r_loadCells (w := { s.w with drawn := m }) hg (by omega)
                have hml : len * i.size ≤ lo * i.size := Nat.mul_le_mul_right _ hlo
                have hclen : ((cs.drop off).take (len * i.size)).length = len * i.size := by simp; omega
                split at he
                · rename_i hex
                  subst hex
                  simp only [Option.some.injEq, Prod.mk.injEq] at he
                  obtain ⟨rfl, rfl⟩ := he
                  have hag := hp.r id (by simp only [fpE, hq, hap, hn]; rw [if_neg (fun hc => by rcases hc with hc | hc <;> simp_all)]; simp)
                  rcases vr_osl hs with ⟨l, cc, hM, e1, h1, h2, h3, h4⟩ | ⟨hd, _⟩
                  · obtain ⟨m', arr, e', fr, hG, hg, hasz, hle, hr⟩ := agr_blk hI hM hag hh
                    have hcc := h3 rfl
                    obtain ⟨k1, k2⟩ := hcells s.G l cc arr fr e' hg hasz hle hr
                    exact app_new (P := P) (ty := oper.type) hI hp.new hu hx hi hzv hzs hlen hfc k2 (by omega) hby hroom k1 hcn hclen hxl (by rw [hrun, e1])
                  · have := agr_dead hd hag hh; cases this
                · rename_i hex
                  split at he
                  · rename_i hm
                    subst hm
                    simp only [Option.some.injEq, Prod.mk.injEq] at he
                    obtain ⟨rfl, rfl⟩ := he
                    have hag := hp.w id (by simp only [fpE, hq, hap, hn]; rw [if_pos (.inr ⟨hfit, by simpa using hex⟩)]; simp)
                    rcases vr_osl hs with ⟨l, cc, hM, e1, h1, h2, h3, h4⟩ | ⟨hd, _⟩
                    · have hG := agr_mut hI hM hag hh
                      obtain ⟨hn1, hn2⟩ := hp.n h.length (Nat.le_refl _) (by simp [news])
                      obtain ⟨arr, e', fr, hg, hasz, hle, hfr, hr⟩ := hI.blk id l true cs hM hG
                      have := hfr rfl; subst this
                      obtain ⟨k1, k2⟩ := hcells s.G l cc arr (0, 0) e' hg hasz hle hr
                      by_cases hroom2 : len + n ≤ cc
                      · -- there is room behind it
                        obtain ⟨hI1, hE1⟩ := hI.move id h.length off l cs hM hG hn1 hn2 (by omega)
                        have hmul : (len + n) * i.size = len * i.size + n * i.size := Nat.add_mul _ _ _
                        have hmul2 : (len + n) * i.size ≤ cc * i.size := Nat.mul_le_mul_right _ hroom2
                        have hnl : new.toList.length = n * i.size := by rw [Array.length_toList, ← hcn.1, hxl]
                        obtain ⟨w', arr', j1, j2, j3, j4, j5, j6, j7, j8, j9⟩ := r_storeCells (P := P) (g := l.g) (o := l.b + off + len * i.size) (e := e') new.toList 0 arr s.w hg hnone (by rw [hnl]; omega)
                        obtain ⟨hI2, hE2⟩ := hI1.write h.length ⟨l.g, l.b + off, l.x⟩ (by simp) ⟨_, by simp; rfl, rfl⟩ (.blk true ((cs.drop off).take (len * i.size) ++ xs)) rfl w' j5 j6 j7 j8 j9 (fun cs' e'' => by
                          injection e'' with _ e''; subst e''
                          refine ⟨arr', e', j2, by rw [j3, hasz], by rw [List.length_append, hclen, hxl]; show l.b + off + (len * i.size + n * i.size) ≤ l.x; omega, fun j y z aa bb => hE1.vr ?_⟩
                          replace bb : arr'[l.b + off + j]? = some z := bb
                          rw [j4, hnl, Nat.add_zero] at bb
                          rw [List.getElem?_append] at aa
                          rw [hclen] at aa
                          split at aa
                          · rename_i hj
                            rw [if_neg (by omega)] at bb
                            rw [List.getElem?_take, if_pos hj] at aa
                            exact hr (off + j) y z (by simpa using aa) (by rw [← Nat.add_assoc]; exact bb)
                          · rename_i hj
                            have hlt := (List.getElem?_eq_some_iff.1 aa).1
                            rw [if_pos (by omega), show l.b + off + j - (l.b + off + len * i.size) = j - len * i.size from by omega] at bb
                            exact hcn.2 _ _ _ aa (by simpa using bb)) (fun _ _ e'' => by cases e'')
                        refine ⟨_, .slice (some ⟨l.g, l.b + off, none⟩) (len + n) cc, _, ?_, .inl rfl, hI2, hE1.trans hE2, ?_, ?_, fun k lk hk => ?_⟩
                        · rw [hrun, e1, run_app_in hu hx hi hlen (by simpa using hfc s.w.drawn) hroom2]
                          simp only [add_plain, j1, Result.andThen_ok]
                        · exact VRel.osl h.length 0 (len + n) i.size (len + n) false cc ⟨l.g, l.b + off, l.x⟩ (by simp) hroom2 (Nat.le_refl _) (fun hc => by cases hc) (by simp; omega)
                        · rw [show news (h.set id .dead) ((cs.drop off).take (len * i.size) ++ xs) = h.set id .dead ++ [.blk true ((cs.drop off).take (len * i.size) ++ xs)] from rfl, ← upd_kill_news hh (by simp)]
                          funext k
                          simp only [setG]
                          split <;> rfl
                        · by_cases hk1 : k = h.length
                          · subst hk1; right; simp [news]
                          · simp only [setG_ne _ _ hk1] at hk
                            by_cases hk2 : k = id
                            · subst hk2; simp at hk
                            · left; simpa [setG_ne _ _ hk2] using hk
                      · -- a new row
                        obtain ⟨hI1, hE1⟩ := hI.kill id
                        have hlt := (List.getElem?_eq_some_iff.1 hh).1
                        have hne : h.length ≠ id := by omega
                        have := app_new (P := P) (ty := oper.type) (h := h) (r := (execOp ρ oper).run P s.w) hI1 ⟨by simp [setG_ne _ _ hne, hn1], by simp [setG_ne _ _ hne, hn2]⟩ hu hx hi hzv hzs hlen hfc k2 (by omega) hby hroom ⟨k1.1, fun j x y a b => hE1.vr (k1.2 j x y a b)⟩ ⟨hcn.1, fun j x y a b => hE1.vr (hcn.2 j x y a b)⟩ hclen hxl (by rw [hrun, e1])
                        obtain ⟨s', c', nx, m1, m2, m3⟩ := this
                        refine ⟨s', c', nx, m1, m2, m3.inv, hE1.trans m3.ext, m3.vr, ?_, fun k lk hk => ?_⟩
                        · rw [m3.G]
                          exact (upd_news _ _ _).symm.trans (upd_kill_news hh (by simp))
                        · rcases m3.M k lk hk with hk | hk
                          · left
                            by_cases hk2 : k = id
                            · subst hk2; simp at hk
                            · simpa [setG_ne _ _ hk2] using hk
                          · right; simpa [news] using hk
                    · have := dead_mut hd hag hh; cases this
                  · cases he
            · cases he
          · cases he
        · cases he
      · cases he
    · cases he

theorem zeroCells_ok {z : List V} {zc : Array Value} (n : Nat) (hc : Cells s z zc) : Cells s (rep n z) (Builtin.zeroCells zc n) := by
  have := rep_ok n (n * zc.size) (by rw [hc.1]) hc
  exact this

theorem ok_clr {c : Call} {x : Operand} {ty e : TypeId} {z : List V} {q : A} (hop : oper.op = .call c) (hcal : c.callee = .builtin .clear) (ha : c.args.toList = [x]) (ht : c.argTypes.toList = [ty]) (hu : P.underlying ty = some (.slice e)) (hz : zeroB P e = some z) (hx : opd gl x = some q)
    (hI : Inv gl s) (hev : Hev gl s t (.clr z q) ρ) (he : opE inl call (.clr z q) t h = some (v, h')) (hp : Pre s h h' (fpE (.clr z q) t h)) : OkOp gl s h h' v ((execOp ρ oper).run P s.w) := by
  have hrun := builtin1 (P := P) (ρ := ρ) (b := .clear) (f := Builtin.clear_) hop hcal ha ht (fun _ _ _ _ => rfl) s.w
  have hs := hev x q hx (by simp [O.args])
  obtain ⟨i, zv, hi, hzv, hzr, hzc, hzo, hzl⟩ := zero_ok hz s s.w
  have htup : s.vr (.tup []) (.tuple #[]) := .tup _ _ rfl (fun i x y a => by simp at a)
  simp only [opE] at he
  split at he
  · rename_i hq
    simp only [Option.some.injEq, Prod.mk.injEq] at he
    obtain ⟨rfl, rfl⟩ := he
    rw [hq] at hs
    refine ok_pure hI ?_ htup
    rw [hrun, vr_nils hs]
    simp [Builtin.clear_, r_und hu]
  · rename_i cs ex hq
    simp only [Option.some.injEq, Prod.mk.injEq] at he
    obtain ⟨rfl, rfl⟩ := he
    rw [hq] at hs
    refine ok_pure hI ?_ htup
    rcases vr_isl hs with ⟨_, _, a, cc, e1, _⟩ | ⟨g, off, arr, e', fr, cc, e1, _⟩
    · rw [hrun, e1]; cases a <;> simp [Builtin.clear_, r_und hu]
    · rw [hrun, e1]; simp [Builtin.clear_, r_und hu]
  · rename_i hq
    simp only [Option.some.injEq, Prod.mk.injEq] at he
    obtain ⟨rfl, rfl⟩ := he
    rw [hq] at hs
    refine ok_pure hI ?_ htup
    rcases vr_osl hs with ⟨l, cc, _, e1, _⟩ | ⟨_, a, cc, e1, _⟩
    · rw [hrun, e1]; simp [Builtin.clear_, r_und hu]
    · rw [hrun, e1]; simp [Builtin.clear_, r_und hu]
  · rename_i id off len sz lo ex hne hq
    split at he
    · rename_i cs hh
      split at he
      · rename_i hcond
        simp only [Option.some.injEq, Prod.mk.injEq] at he
        obtain ⟨rfl, rfl⟩ := he
        obtain ⟨rfl, hin⟩ := hcond
        rw [hq] at hs
        have hag := hp.w id (by simp only [fpE, hq]; simp)
        rcases vr_osl hs with ⟨l, cc, hM, e1, h1, h2, h3, h4⟩ | ⟨hd, _⟩
        · have hG := agr_mut hI hM hag hh
          obtain ⟨arr, e', fr, hg, hasz, hle, hfr, hr⟩ := hI.blk id l true cs hM hG
          have := hfr rfl; subst this
          have hzcl := zeroCells_ok len hzc
          have hlen0 : len ≠ 0 := hne
          have hone : ∀ y ∈ (Builtin.zeroCells zv.cells len).toList, y.oneCell' = true := fun y hy => by
            rw [Array.mem_toList_iff, Array.mem_iff_getElem?] at hy
            obtain ⟨j, hj⟩ := hy
            have hlt : j < (rep len z).length := by rw [hzcl.1]; exact (Array.getElem?_eq_some_iff.1 hj).1
            have hone := List.all_eq_true.1 (rep_one len hzo) _ (List.getElem_mem hlt)
            exact one_rel (hzcl.2 j _ y (List.getElem?_eq_getElem hlt) hj) hone (fun hc => by rw [hc] at hone; cases hone)
          have hzlen : (Builtin.zeroCells zv.cells len).toList.length = len * z.length := by rw [Array.length_toList, ← hzcl.1, rep_len]
          obtain ⟨w', arr', k1, k2, k3, k4, k5, k6, k7, k8, k9⟩ := r_storeCells (P := P) (g := l.g) (o := l.b + off) (e := e') (Builtin.zeroCells zv.cells len).toList 0 arr s.w hg hone (by rw [hzlen]; omega)
          refine write_ok (w' := w') (c := .tuple #[]) hI hM hG rfl rfl hh ?_ (.inl rfl) k5 k6 k7 k8 k9 (fun cs' e' => ?_) (fun _ _ e' => by cases e') (fun s' _ => .tup _ _ rfl (fun i x y a => by simp at a))
          · rw [hrun, e1]
            simp only [Builtin.clear_, List.getElem?_toArray, List.getElem?_cons_zero, Sem.run_bind, r_und hu, Result.andThen_ok]
            simp only [Sem.run_bind, hzr, Result.andThen_ok, k1, Sem.run_pure]
          · injection e' with _ e'; subst e'
            refine ⟨arr', _, k2, by omega, by rw [splice_len (by rw [rep_len]; omega)]; exact hle, fun j y z' aa bb => ?_⟩
            rw [splice_get (by rw [rep_len]; omega), rep_len] at aa
            rw [k4, hzlen, Nat.add_zero] at bb
            by_cases hj : off ≤ j ∧ j < off + len * z.length
            · rw [if_pos hj] at aa
              rw [if_pos (by omega), show l.b + j - (l.b + off) = j - off from by omega] at bb
              exact hzcl.2 _ _ _ aa (by simpa using bb)
            · rw [if_neg hj] at aa
              rw [if_neg (by omega)] at bb
              exact hr _ _ _ aa bb
        · have := dead_mut hd hag hh; cases this
      · cases he
    · cases he
  · cases he
end
end Go.Am
