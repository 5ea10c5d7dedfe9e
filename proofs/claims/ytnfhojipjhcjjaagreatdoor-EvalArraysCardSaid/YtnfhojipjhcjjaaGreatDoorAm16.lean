/-
  VALUES THAT ARE HANDED TO A CALL, AND WHAT IT HANDS BACK. Conditions: as each lemma names them.
-/
import Derived.Test.YtnfhojipjhcjjaaGreatDoorAm15
namespace Go.Am
set_option autoImplicit false
set_option linter.unusedVariables false
set_option linter.unusedSimpArgs false

theorem frzL_ok {f : V → Option (V × List Nat)} : ∀ (l ys : List V) (is : List Nat), frzL f l = some (ys, is) →
    ys.length = l.length ∧ (∀ (i : Nat) (x : V), l[i]? = some x → ∃ y js, ys[i]? = some y ∧ f x = some (y, js) ∧ ∀ j ∈ js, j ∈ is) ∧ ∀ j ∈ is, ∃ x y js, x ∈ l ∧ f x = some (y, js) ∧ j ∈ js
  | [], ys, is, h => by simp [frzL] at h; obtain ⟨rfl, rfl⟩ := h; simp
  | a :: l, ys, is, h => by
    simp only [frzL, List.foldr_cons] at h
    split at h
    · rename_i ys' is' y js h1 h2
      simp only [Option.some.injEq, Prod.mk.injEq] at h
      obtain ⟨rfl, rfl⟩ := h
      obtain ⟨k1, k2, k3⟩ := frzL_ok l ys' is' h1
      refine ⟨by simp [k1], fun i x hx => ?_, fun j hj => ?_⟩
      · cases i with
        | zero => simp at hx; subst hx; exact ⟨y, js, rfl, h2, fun j hj => by simp [hj]⟩
        | succ i =>
          obtain ⟨y', js', e1, e2, e3⟩ := k2 i x (by simpa using hx)
          exact ⟨y', js', by simpa using e1, e2, fun j hj => by simp [e3 j hj]⟩
      · rcases List.mem_append.1 hj with hj | hj
        · exact ⟨a, y, js, by simp, h2, hj⟩
        · obtain ⟨x, y', js', e1, e2, e3⟩ := k3 j hj
          exact ⟨x, y', js', by simp [e1], e2, e3⟩
    · cases h

theorem mark_len (is : List Nat) : ∀ (h : H), (mark h is).length = h.length := by
  induction is with
  | nil => intro h; rfl
  | cons i is ih => intro h; show (mark (h.modify i Ob.frozen) is).length = _; rw [ih]; simp

theorem mark_get (is : List Nat) : ∀ (h : H) (id : Nat), (mark h is)[id]? = if id ∈ is then (h[id]?).map Ob.frozen else h[id]? := by
  induction is with
  | nil => intro h id; simp [mark]
  | cons i is ih =>
    intro h id
    show (mark (h.modify i Ob.frozen) is)[id]? = _
    rw [ih, List.getElem?_modify]
    by_cases h1 : id ∈ is
    · rw [if_pos h1, if_pos (by simp [h1])]
      split
      · exact frozen_frozen _
      · simp
    · rw [if_neg h1]
      by_cases h2 : i = id
      · subst h2; simp
      · rw [if_neg (by simp [h1, Ne.symm h2])]; simp [h2]

section
variable {gl : Nat → Option (List V)} {s : St} {h : H}

/-- Values frozen: they lead to no object, and what they led to changes no more. -/
theorem frz_ok (hI : Inv gl s) (G' : Nat → Option Ob) (hG : Froz s.G G') : ∀ (d : Nat) (v y : V) (is : List Nat) (c : Value), frz h d v = some (y, is) → s.vr v c →
    (∀ id ∈ is, s.G id ≠ none → (s.G id).map Ob.frozen = (h[id]?).map Ob.frozen) → (∀ id ∈ is, ¬ isMut (G' id)) →
    CRel (St.rd { s with G := G' }) y c ∧ ∀ id ∈ is, s.G id ≠ none ∧ id < h.length := by
  obtain ⟨hI', hE'⟩ := hI.froz G' hG
  have hrd : ∀ {id : Nat} {l : Loc} {o : Obj}, s.M id = some l → ¬ isMut (G' id) → s.w.heap[l.g]? = some o → St.rd { s with G := G' } l.g = some o := by
    intro id l o hM hm hh
    rw [St.rd_some]
    refine ⟨fun hw => ?_, hh⟩
    rcases hw with hw | ⟨i, li, h1, h2, h3⟩
    · exact hI.nf id l hM hw
    · have := hI.inj i id li l h1 hM h2 (isMut_of_froz hG i h3).1
      subst this; exact hm h3
  intro d
  induction d with
  | zero => intro v y is c hf; simp [frz] at hf
  | succ d ih =>
    intro v y is c hf hv hag hnm
    have cells : ∀ (l ys : List V) (js : List Nat) (arr : Array Value) (b : Nat), frzL (frz h d) l = some (ys, js) → (∀ j ∈ js, j ∈ is) → (∀ (i : Nat) (x : V) (z : Value), l[i]? = some x → arr[b + i]? = some z → s.vr x z) → (∀ i, i < l.length → b + i < arr.size) →
        ys.length = l.length ∧ (∀ (i : Nat) (x : V) (z : Value), ys[i]? = some x → arr[b + i]? = some z → CRel (St.rd { s with G := G' }) x z) ∧ ∀ id ∈ js, s.G id ≠ none ∧ id < h.length := by
      intro l ys js arr b hl hsub hr hin
      obtain ⟨k1, k2, k3⟩ := frzL_ok l ys js hl
      refine ⟨k1, fun i x z hx hz => ?_, fun id hid => ?_⟩
      · have hlt : i < l.length := by rw [← k1]; exact lt_some hx
        obtain ⟨y', js', e1, e2, e3⟩ := k2 i _ (List.getElem?_eq_getElem hlt)
        rw [hx] at e1; injection e1 with e1; subst e1
        exact (ih _ _ _ _ e2 (hr i _ z (List.getElem?_eq_getElem hlt) hz) (fun id a => hag id (hsub _ (e3 _ a))) (fun id a => hnm id (hsub _ (e3 _ a)))).1
      · obtain ⟨x, y', js', e1, e2, e3⟩ := k3 id hid
        obtain ⟨i, hi⟩ := List.getElem?_of_mem e1
        have hlt := hin i (lt_some hi)
        obtain ⟨y'', js'', f1, f2, f3⟩ := k2 i x hi
        rw [e2] at f2; injection f2 with f2; injection f2 with f2 f2'; subst f2 f2'
        exact (ih _ _ _ _ e2 (hr i _ _ hi (Array.getElem?_eq_getElem hlt)) (fun id a => hag id (hsub _ (f3 _ a))) (fun id a => hnm id (hsub _ (f3 _ a)))).2 id e3
    have plain : y = v → is = [] → CRel s.rd v c → CRel (St.rd { s with G := G' }) y c ∧ ∀ id ∈ is, s.G id ≠ none ∧ id < h.length := fun e1 e2 hcr => by
      subst e1 e2; exact ⟨hE'.cr hcr, fun id hid => by cases hid⟩
    cases v with
    | agg cs =>
      simp only [frz] at hf
      simp only [Option.map_eq_some_iff, Prod.mk.injEq] at hf
      obtain ⟨⟨ys, js⟩, hl, rfl, rfl⟩ := hf
      obtain ⟨arr, rfl, hn, hr⟩ := vr_agg hv
      obtain ⟨k1, k2, k3⟩ := cells cs ys js arr 0 hl (fun _ a => a) (fun i x z a b => hr i x z a (by simpa using b)) (fun i hi => by omega)
      exact ⟨.agg _ _ (by show ys.length = _; omega) (fun i x z a b => k2 i x z a (by simpa using b)), k3⟩
    | tup cs =>
      simp only [frz] at hf
      simp only [Option.map_eq_some_iff, Prod.mk.injEq] at hf
      obtain ⟨⟨ys, js⟩, hl, rfl, rfl⟩ := hf
      obtain ⟨arr, rfl, hn, hr⟩ := vr_tup hv
      obtain ⟨k1, k2, k3⟩ := cells cs ys js arr 0 hl (fun _ a => a) (fun i x z a b => hr i x z a (by simpa using b)) (fun i hi => by omega)
      exact ⟨.tup _ _ (by show ys.length = _; omega) (fun i x z a b => k2 i x z a (by simpa using b)), k3⟩
    | fn f cs =>
      simp only [frz] at hf
      simp only [Option.map_eq_some_iff, Prod.mk.injEq] at hf
      obtain ⟨⟨ys, js⟩, hl, rfl, rfl⟩ := hf
      obtain ⟨arr, rfl, hn, hr⟩ := vr_fn hv
      obtain ⟨k1, k2, k3⟩ := cells cs ys js arr 0 hl (fun _ a => a) (fun i x z a b => hr i x z a (by simpa using b)) (fun i hi => by omega)
      exact ⟨.fn _ _ _ (by show ys.length = _; omega) (fun i x z a b => k2 i x z a (by simpa using b)), k3⟩
    | isl cs len ex =>
      simp only [frz] at hf
      simp only [Option.some.injEq, Prod.mk.injEq] at hf
      obtain ⟨rfl, rfl⟩ := hf
      refine ⟨?_, fun id hid => by cases hid⟩
      rcases vr_isl hv with ⟨rfl, rfl, a, cc, rfl, _⟩ | ⟨g, off, arr, e, fr, cc, rfl, h1, _, hg, hl, hr⟩
      · exact .isl0 _ _ _ (fun n hn => by cases hn)
      · exact .isl _ _ _ _ g off arr e fr h1 (fun n hn => by cases hn) (hE'.rdm _ _ hg) hl (fun i x y a b => hE'.cr (hr i x y a b))
    | own id off =>
      simp only [frz] at hf
      split at hf
      · rename_i m cs hh
        simp only [Option.map_eq_some_iff, Prod.mk.injEq] at hf
        obtain ⟨⟨ys, js⟩, hl, rfl, rfl⟩ := hf
        have hagi := hag id (by simp)
        rcases vr_own hv with ⟨l, hM, rfl⟩ | ⟨hd, _⟩
        · obtain ⟨m', arr, e, fr, hGi, hg, hsz, hle, hr⟩ := agr_blk hI hM hagi hh
          obtain ⟨k1, k2, k3⟩ := cells (cs.drop off) ys js arr (l.b + off) hl (fun _ a => by simp [a]) (fun i x z a b => hr (off + i) x z (by simpa using a) (by rw [← Nat.add_assoc]; exact b)) (fun i hi => by simp at hi; omega)
          refine ⟨.imm _ l.g (l.b + off) arr e fr (hrd hM (hnm id (by simp)) hg) (fun i hi => ?_) k2, fun i hi => ?_⟩
          · rw [k1] at hi; simp at hi; omega
          · rcases List.mem_cons.1 hi with rfl | hi
            · exact ⟨acc_M hI hM, lt_some hh⟩
            · exact k3 i hi
        · have := agr_dead hd hagi hh; cases this
      · cases hf
    | osl id off len sz lo ex =>
      simp only [frz] at hf
      split at hf
      · rename_i m cs hh
        split at hf
        · rename_i hin
          simp only [Option.map_eq_some_iff, Prod.mk.injEq] at hf
          obtain ⟨⟨ys, js⟩, hl, rfl, rfl⟩ := hf
          have hagi := hag id (by simp)
          rcases vr_osl hv with ⟨l, cc, hM, rfl, h1, h2, h3, h4⟩ | ⟨hd, _⟩
          · obtain ⟨m', arr, e, fr, hGi, hg, hsz, hle, hr⟩ := agr_blk hI hM hagi hh
            obtain ⟨k1, k2, k3⟩ := cells ((cs.drop off).take (len * sz)) ys js arr (l.b + off) hl (fun _ a => by simp [a]) (fun i x z a b => by
              rw [List.getElem?_take] at a
              split at a
              · exact hr (off + i) x z (by simpa using a) (by rw [← Nat.add_assoc]; exact b)
              · cases a) (fun i hi => by simp at hi; omega)
            refine ⟨.isl _ _ _ _ l.g (l.b + off) arr e fr (by omega) (fun n hn => by cases hn) (hrd hM (hnm id (by simp)) hg) (fun i hi => ?_) k2, fun i hi => ?_⟩
            · rw [k1] at hi; simp at hi; omega
            · rcases List.mem_cons.1 hi with rfl | hi
              · exact ⟨acc_M hI hM, lt_some hh⟩
              · exact k3 i hi
          · have := agr_dead hd hagi hh; cases this
        · cases hf
      · cases hf
    | omap id =>
      simp only [frz] at hf
      split at hf
      · rename_i m ks vs hh
        split at hf
        · rename_i ys js zs js' hl1 hl2
          simp only [Option.some.injEq, Prod.mk.injEq] at hf
          obtain ⟨rfl, rfl⟩ := hf
          have hagi := hag id (by simp)
          rcases vr_omap hv with ⟨l, hM, rfl⟩ | ⟨hd, _⟩
          · obtain ⟨m', es, k, hGi, hg, hn, hkv, hr1, hr2⟩ := agr_map hI hM hagi hh
            obtain ⟨a1, a2, a3⟩ := cells ks ys js (es.map (·.key)) 0 hl1 (fun _ a => by simp [a]) (fun i x z a b => by
              simp only [Nat.zero_add, Array.getElem?_map, Option.map_eq_some_iff] at b
              obtain ⟨e, b, rfl⟩ := b
              exact hr1 i x e a b) (fun i hi => by simp; omega)
            obtain ⟨b1, b2, b3⟩ := cells vs zs js' (es.map (·.val)) 0 hl2 (fun _ a => by simp [a]) (fun i x z a b => by
              simp only [Nat.zero_add, Array.getElem?_map, Option.map_eq_some_iff] at b
              obtain ⟨e, b, rfl⟩ := b
              exact hr2 i x e a b) (fun i hi => by simp; omega)
            refine ⟨.imap _ _ l.g es k (hrd hM (hnm id (by simp)) hg) (by omega) (by omega) (fun i x e a b => a2 i x _ a (by simp [b])) (fun i x e a b => b2 i x _ a (by simp [b])), fun i hi => ?_⟩
            simp only [List.cons_append, List.mem_cons, List.mem_append] at hi
            rcases hi with rfl | hi | hi
            · exact ⟨acc_M hI hM, lt_some hh⟩
            · exact a3 i hi
            · exact b3 i hi
          · have := agr_dead hd hagi hh; cases this
        · cases hf
      · cases hf
    | bool b => simp only [frz, Option.some.injEq, Prod.mk.injEq] at hf; exact plain hf.1.symm hf.2.symm (by cases hv with | cl _ _ h => exact h)
    | int k n => simp only [frz, Option.some.injEq, Prod.mk.injEq] at hf; exact plain hf.1.symm hf.2.symm (by cases hv with | cl _ _ h => exact h)
    | str l => simp only [frz, Option.some.injEq, Prod.mk.injEq] at hf; exact plain hf.1.symm hf.2.symm (by cases hv with | cl _ _ h => exact h)
    | nilp => simp only [frz, Option.some.injEq, Prod.mk.injEq] at hf; exact plain hf.1.symm hf.2.symm (by cases hv with | cl _ _ h => exact h)
    | imm cs => simp only [frz, Option.some.injEq, Prod.mk.injEq] at hf; exact plain hf.1.symm hf.2.symm (by cases hv with | cl _ _ h => exact h)
    | nils => simp only [frz, Option.some.injEq, Prod.mk.injEq] at hf; exact plain hf.1.symm hf.2.symm (by cases hv with | cl _ _ h => exact h)
    | nilm => simp only [frz, Option.some.injEq, Prod.mk.injEq] at hf; exact plain hf.1.symm hf.2.symm (by cases hv with | cl _ _ h => exact h)
    | imap ks vs => simp only [frz, Option.some.injEq, Prod.mk.injEq] at hf; exact plain hf.1.symm hf.2.symm (by cases hv with | cl _ _ h => exact h)
    | nilf => simp only [frz, Option.some.injEq, Prod.mk.injEq] at hf; exact plain hf.1.symm hf.2.symm (by cases hv with | cl _ _ h => exact h)
    | nili => simp only [frz, Option.some.injEq, Prod.mk.injEq] at hf; exact plain hf.1.symm hf.2.symm (by cases hv with | cl _ _ h => exact h)
    | und => simp only [frz, Option.some.injEq, Prod.mk.injEq] at hf; exact plain hf.1.symm hf.2.symm (by cases hv with | cl _ _ h => exact h)

/-! ### A call in memory of its own: in, and back -/

/-- Every block that may still be written is another's. -/
def St.inner (s : St) : St := { F := s.wr, G := fun _ => none, M := fun _ => none, w := s.w }

theorem inner_wr (s : St) (g : Nat) : s.inner.wr g ↔ s.wr g := by
  constructor
  · rintro (h | ⟨_, _, h, _⟩)
    · exact h
    · cases h
  · intro h; exact .inl h

theorem inner_rd (s : St) : s.inner.rd = s.rd := by
  funext g
  have h := inner_wr s g
  unfold St.rd
  by_cases hw : s.wr g
  · rw [if_pos (h.2 hw), if_pos hw]
  · rw [if_neg (fun k => hw (h.1 k)), if_neg hw]; rfl

theorem inner_inv (hI : Inv gl s) : Inv gl s.inner :=
  ⟨fun _ _ _ _ h => (by cases h), fun _ _ _ _ _ h => (by cases h), fun _ _ h => (by cases h), fun _ _ _ _ h => (by cases h), fun _ _ h => (by cases h), fun g h => wr_lt hI h, fun g cs h => (by rw [inner_rd]; exact hI.gls g cs h)⟩

/-- Back from the call. -/
theorem back (hI : Inv gl s) {s2 : St} (hI2 : Inv gl s2) (hE : Ext s.inner s2) : Inv gl { s with w := s2.w } ∧ Ext s { s with w := s2.w } ∧ ∀ g o, s2.rd g = some o → St.rd { s with w := s2.w } g = some o := by
  have hwr : ∀ g, St.wr { s with w := s2.w } g ↔ s.wr g := fun g => Iff.rfl
  have hF : ∀ g, s.wr g → s2.F g := fun g h => by rw [hE.F]; exact h
  have hkeep : ∀ g o, s.w.heap[g]? = some o → s2.w.heap[g]? = some o := fun g o h => by
    by_cases hw : s.wr g
    · rw [hE.keep g hw]; exact h
    · have : s.inner.rd g = some o := by rw [inner_rd]; exact St.rd_some.2 ⟨hw, h⟩
      exact (St.rd_some.1 (hE.rdm g o this)).2
  have hE' : Ext s { s with w := s2.w } := by
    refine ⟨rfl, hE.os, hE.tape, hE.out, hE.size, fun g o h => ?_, fun g h => hE.keep g (.inl h), fun _ _ h => .inl h, fun _ h => h⟩
    rw [St.rd_some] at h ⊢
    exact ⟨h.1, hkeep g o h.2⟩
  refine ⟨⟨fun i l m cs h1 h2 => ?_, fun i l m ks vs h1 h2 => ?_, hI.has, hI.inj, hI.nf, fun g h => Nat.lt_of_lt_of_le (hI.fs g h) hE.size, fun g cs h => hE'.cr (hI.gls g cs h)⟩, hE', fun g o h => ?_⟩
  · obtain ⟨arr, e, fr, k1, k2, k3, k4, k5⟩ := hI.blk i l m cs h1 h2
    exact ⟨arr, e, fr, hkeep _ _ k1, k2, k3, k4, fun j x y a b => hE'.vr (k5 j x y a b)⟩
  · obtain ⟨es, k, k1, k2, k3, k4, k5⟩ := hI.map i l m ks vs h1 h2
    exact ⟨es, k, hkeep _ _ k1, k2, k3, fun j x e a b => hE'.vr (k4 j x e a b), fun j x e a b => hE'.vr (k5 j x e a b)⟩
  · rw [St.rd_some] at h ⊢
    exact ⟨fun hw => h.1 (.inl (hF g hw)), h.2⟩
end
end Go.Am
