/-
  HOW THE EVALUATOR's VALUES AND OBJECTS LIE IN THE MACHINE's MEMORY, and that memory's changes keep it: definitions and lemmas. Conditions: as each lemma names them.
-/
import Derived.Test.YtnfhojipjhcjjaaGreatDoorAm2
import Derived.Laws.Sem
import Derived.Laws.World
import Derived.Laws.Append
namespace Go.Am
set_option autoImplicit false
set_option linter.unusedVariables false
set_option linter.unusedSimpArgs false

theorem heap_old (w : World) (o : Obj) {g : Nat} (h : g < w.heap.size) : (w.alloc o).heap[g]? = w.heap[g]? := by
  show (w.heap.push o)[g]? = _
  rw [Array.getElem?_push_lt h]; exact (Array.getElem?_eq_getElem h).symm

theorem heap_new (w : World) (o : Obj) : (w.alloc o).heap[w.heap.size]? = some o := by
  show (w.heap.push o)[w.heap.size]? = _
  exact Array.getElem?_push_size

/-- Where an object lies: its block, the first cell, the number of the block's cells. -/
structure Loc where
  g : Nat
  b : Nat
  x : Nat

/-- A value that leads to no object: 'rd' tells the blocks that stay as they are. -/
inductive CRel (rd : Nat → Option Obj) : V → Value → Prop
  | bool (b : Bool) : CRel rd (.bool b) (.bool b)
  | int (k : IntKind) (n : Int) : CRel rd (.int k n) (.int k n)
  | str (l : List UInt8) (s : ByteArray) (h : s.data.toList = l) : CRel rd (.str l) (.string s)
  | agg (cs : List V) (arr : Array Value) (hn : cs.length = arr.size) (hr : ∀ (i : Nat) (x : V) (y : Value), cs[i]? = some x → arr[i]? = some y → CRel rd x y) : CRel rd (.agg cs) (.agg arr)
  | tup (cs : List V) (arr : Array Value) (hn : cs.length = arr.size) (hr : ∀ (i : Nat) (x : V) (y : Value), cs[i]? = some x → arr[i]? = some y → CRel rd x y) : CRel rd (.tup cs) (.tuple arr)
  | nilp : CRel rd .nilp (.pointer none)
  | imm (cs : List V) (g off : Nat) (arr : Array Value) (e : TypeId) (fr : Nat × Nat) (hg : rd g = some (.cells arr e fr)) (hl : ∀ i, i < cs.length → off + i < arr.size)
      (hr : ∀ (i : Nat) (x : V) (y : Value), cs[i]? = some x → arr[off + i]? = some y → CRel rd x y) : CRel rd (.imm cs) (.pointer (some ⟨g, off, none⟩))
  | nils : CRel rd .nils (.slice none 0 0)
  | isl0 (ex : Option Nat) (a : Addr) (c : Nat) (hex : ∀ n, ex = some n → c = n) : CRel rd (.isl [] 0 ex) (.slice (some a) 0 c)
  | isl (cs : List V) (len : Nat) (ex : Option Nat) (c g off : Nat) (arr : Array Value) (e : TypeId) (fr : Nat × Nat) (hc : len ≤ c) (hex : ∀ n, ex = some n → c = n) (hg : rd g = some (.cells arr e fr))
      (hl : ∀ i, i < cs.length → off + i < arr.size) (hr : ∀ (i : Nat) (x : V) (y : Value), cs[i]? = some x → arr[off + i]? = some y → CRel rd x y) : CRel rd (.isl cs len ex) (.slice (some ⟨g, off, none⟩) len c)
  | nilm : CRel rd .nilm (.map none)
  | imap (ks vs : List V) (g : Nat) (es : Array MapEntry) (k : Nat) (hg : rd g = some (.map es k)) (hn : es.size = ks.length) (hv : ks.length = vs.length)
      (hk : ∀ (i : Nat) (x : V) (e : MapEntry), ks[i]? = some x → es[i]? = some e → CRel rd x e.key) (hx : ∀ (i : Nat) (x : V) (e : MapEntry), vs[i]? = some x → es[i]? = some e → CRel rd x e.val) : CRel rd (.imap ks vs) (.map (some g))
  | fn (f : FuncId) (cs : List V) (arr : Array Value) (hn : cs.length = arr.size) (hr : ∀ (i : Nat) (x : V) (y : Value), cs[i]? = some x → arr[i]? = some y → CRel rd x y) : CRel rd (.fn f cs) (.func (.func f) #[] arr)
  | nilf : CRel rd .nilf .nilFunc
  | nili : CRel rd .nili .nilIface
  | und : CRel rd .und undef

/-- A value that may lead to objects: 'M' tells where they lie, 'D' those that are gone. -/
inductive VRel (rd : Nat → Option Obj) (M : Nat → Option Loc) (D : Nat → Prop) : V → Value → Prop
  | cl (v : V) (c : Value) (h : CRel rd v c) : VRel rd M D v c
  | agg (cs : List V) (arr : Array Value) (hn : cs.length = arr.size) (hr : ∀ (i : Nat) (x : V) (y : Value), cs[i]? = some x → arr[i]? = some y → VRel rd M D x y) : VRel rd M D (.agg cs) (.agg arr)
  | tup (cs : List V) (arr : Array Value) (hn : cs.length = arr.size) (hr : ∀ (i : Nat) (x : V) (y : Value), cs[i]? = some x → arr[i]? = some y → VRel rd M D x y) : VRel rd M D (.tup cs) (.tuple arr)
  | fn (f : FuncId) (cs : List V) (arr : Array Value) (hn : cs.length = arr.size) (hr : ∀ (i : Nat) (x : V) (y : Value), cs[i]? = some x → arr[i]? = some y → VRel rd M D x y) : VRel rd M D (.fn f cs) (.func (.func f) #[] arr)
  | own (id off : Nat) (l : Loc) (h : M id = some l) : VRel rd M D (.own id off) (.pointer (some ⟨l.g, l.b + off, none⟩))
  | osl (id off len sz lo : Nat) (ex : Bool) (c : Nat) (l : Loc) (h : M id = some l) (hlo : lo ≤ c) (hlen : len ≤ lo) (hex : ex = true → c = lo) (hb : l.b + off + c * sz ≤ l.x) :
      VRel rd M D (.osl id off len sz lo ex) (.slice (some ⟨l.g, l.b + off, none⟩) len c)
  | omap (id : Nat) (l : Loc) (h : M id = some l) : VRel rd M D (.omap id) (.map (some l.g))
  | ownD (id off : Nat) (a : Addr) (h : D id) (ha : a.spot = none) : VRel rd M D (.own id off) (.pointer (some a))
  | oslD (id off len sz lo : Nat) (ex : Bool) (a : Addr) (c : Nat) (h : D id) (ha : a.spot = none) (hlo : lo ≤ c) (hlen : len ≤ lo) (hex : ex = true → c = lo) : VRel rd M D (.osl id off len sz lo ex) (.slice (some a) len c)
  | omapD (id : Nat) (g : Nat) (h : D id) : VRel rd M D (.omap id) (.map (some g))

theorem CRel.mono {rd rd' : Nat → Option Obj} (hm : ∀ g o, rd g = some o → rd' g = some o) {v : V} {c : Value} (h : CRel rd v c) : CRel rd' v c := by
  induction h with
  | bool b => exact .bool b
  | int k n => exact .int k n
  | str l s h => exact .str l s h
  | agg cs arr hn _ ih => exact .agg cs arr hn ih
  | tup cs arr hn _ ih => exact .tup cs arr hn ih
  | nilp => exact .nilp
  | imm cs g off arr e fr hg hl _ ih => exact .imm cs g off arr e fr (hm _ _ hg) hl ih
  | nils => exact .nils
  | isl0 ex a c hex => exact .isl0 ex a c hex
  | isl cs len ex c g off arr e fr hc hex hg hl _ ih => exact .isl cs len ex c g off arr e fr hc hex (hm _ _ hg) hl ih
  | nilm => exact .nilm
  | imap ks vs g es k hg hn hv _ _ ih1 ih2 => exact .imap ks vs g es k (hm _ _ hg) hn hv ih1 ih2
  | fn f cs arr hn _ ih => exact .fn f cs arr hn ih
  | nilf => exact .nilf
  | nili => exact .nili
  | und => exact .und

theorem VRel.mono {rd rd' : Nat → Option Obj} {M M' : Nat → Option Loc} {D D' : Nat → Prop} (hm : ∀ g o, rd g = some o → rd' g = some o)
    (hM : ∀ id l, M id = some l → M' id = some l ∨ D' id) (hD : ∀ id, D id → D' id) {v : V} {c : Value} (h : VRel rd M D v c) : VRel rd' M' D' v c := by
  induction h with
  | cl v c h => exact .cl v c (h.mono hm)
  | agg cs arr hn _ ih => exact .agg cs arr hn ih
  | tup cs arr hn _ ih => exact .tup cs arr hn ih
  | fn f cs arr hn _ ih => exact .fn f cs arr hn ih
  | own id off l h => exact (hM _ _ h).elim (fun h => .own id off l h) (fun h => .ownD id off _ h rfl)
  | osl id off len sz lo ex c l h hlo hlen hex hb => exact (hM _ _ h).elim (fun h => .osl id off len sz lo ex c l h hlo hlen hex hb) (fun h => .oslD id off len sz lo ex _ c h rfl hlo hlen hex)
  | omap id l h => exact (hM _ _ h).elim (fun h => .omap id l h) (fun h => .omapD id _ h)
  | ownD id off a h ha => exact .ownD id off a (hD _ h) ha
  | oslD id off len sz lo ex a c h ha hlo hlen hex => exact .oslD id off len sz lo ex a c (hD _ h) ha hlo hlen hex
  | omapD id g h => exact .omapD id g (hD _ h)

def Ob.mut : Ob → Bool
  | .blk m _ => m
  | .map m _ _ => m
  | .dead => false

def isMut (o : Option Ob) : Prop := ∃ x, o = some x ∧ x.mut = true

/-- A state: the blocks that are another's ('F'), the objects, where they lie, the world. -/
structure St where
  F : Nat → Prop
  G : Nat → Option Ob
  M : Nat → Option Loc
  w : World

/-- Is a block one that may still be written? -/
def St.wr (s : St) (g : Nat) : Prop := s.F g ∨ ∃ id l, s.M id = some l ∧ l.g = g ∧ isMut (s.G id)

open Classical in
noncomputable def St.rd (s : St) (g : Nat) : Option Obj := if s.wr g then none else s.w.heap[g]?

def St.dead (s : St) (id : Nat) : Prop := s.G id = some .dead

def St.vr (s : St) : V → Value → Prop := VRel s.rd s.M s.dead

theorem St.rd_some {s : St} {g : Nat} {o : Obj} : s.rd g = some o ↔ ¬ s.wr g ∧ s.w.heap[g]? = some o := by
  unfold St.rd
  split <;> simp_all

structure Inv (gl : Nat → Option (List V)) (s : St) : Prop where
  blk : ∀ id l m cs, s.M id = some l → s.G id = some (.blk m cs) → ∃ arr e fr, s.w.heap[l.g]? = some (.cells arr e fr) ∧ arr.size = l.x ∧ l.b + cs.length ≤ l.x ∧ (m = true → fr = (0, 0)) ∧
    ∀ (i : Nat) (x : V) (y : Value), cs[i]? = some x → arr[l.b + i]? = some y → s.vr x y
  map : ∀ id l m ks vs, s.M id = some l → s.G id = some (.map m ks vs) → ∃ es k, s.w.heap[l.g]? = some (.map es k) ∧ es.size = ks.length ∧ ks.length = vs.length ∧
    (∀ (i : Nat) (x : V) (e : MapEntry), ks[i]? = some x → es[i]? = some e → s.vr x e.key) ∧ (∀ (i : Nat) (x : V) (e : MapEntry), vs[i]? = some x → es[i]? = some e → s.vr x e.val)
  has : ∀ id l, s.M id = some l → ∃ o, s.G id = some o ∧ o ≠ .dead
  inj : ∀ i j li lj, s.M i = some li → s.M j = some lj → li.g = lj.g → isMut (s.G i) → i = j
  nf : ∀ id l, s.M id = some l → ¬ s.F l.g
  fs : ∀ g, s.F g → g < s.w.heap.size
  gls : ∀ g cs, gl g = some cs → CRel s.rd (.imm cs) (.pointer (some ⟨g, 0, none⟩))

/-- One state after another. -/
structure Ext (s s' : St) : Prop where
  F : s'.F = s.F
  os : s'.w.os = s.w.os
  tape : s'.w.tape = s.w.tape
  out : s'.w.output = s.w.output
  size : s.w.heap.size ≤ s'.w.heap.size
  rdm : ∀ g o, s.rd g = some o → s'.rd g = some o
  keep : ∀ g, s.F g → s'.w.heap[g]? = s.w.heap[g]?
  Mm : ∀ id l, s.M id = some l → s'.M id = some l ∨ s'.dead id
  Dm : ∀ id, s.dead id → s'.dead id

theorem Ext.refl (s : St) : Ext s s := ⟨rfl, rfl, rfl, rfl, Nat.le_refl _, fun _ _ h => h, fun _ _ => rfl, fun _ _ h => .inl h, fun _ h => h⟩

theorem Ext.trans {s t u : St} (h : Ext s t) (k : Ext t u) : Ext s u :=
  ⟨k.F.trans h.F, k.os.trans h.os, k.tape.trans h.tape, k.out.trans h.out, Nat.le_trans h.size k.size, fun g o x => k.rdm _ _ (h.rdm _ _ x), fun g x => (k.keep g (h.F ▸ x)).trans (h.keep g x),
    fun id l x => (h.Mm id l x).elim (fun y => k.Mm id l y) (fun y => .inr (k.Dm id y)), fun id x => k.Dm id (h.Dm id x)⟩

theorem Ext.vr {s s' : St} (h : Ext s s') {v : V} {c : Value} (hv : s.vr v c) : s'.vr v c := VRel.mono h.rdm h.Mm h.Dm hv

theorem Ext.cr {s s' : St} (h : Ext s s') {v : V} {c : Value} (hv : CRel s.rd v c) : CRel s'.rd v c := hv.mono h.rdm

theorem wr_lt {gl : Nat → Option (List V)} {s : St} (hI : Inv gl s) {g : Nat} (h : s.wr g) : g < s.w.heap.size := by
  rcases h with h | ⟨id, l, hM, rfl, x, hx, hm⟩
  · exact hI.fs g h
  · cases x with
    | blk m cs =>
      obtain ⟨arr, e, fr, h1, _⟩ := hI.blk id l m cs hM hx
      exact (Array.getElem?_eq_some_iff.1 h1).1
    | map m ks vs =>
      obtain ⟨es, k, h1, _⟩ := hI.map id l m ks vs hM hx
      exact (Array.getElem?_eq_some_iff.1 h1).1
    | dead => simp [Ob.mut] at hm

theorem Loc_lt {gl : Nat → Option (List V)} {s : St} (hI : Inv gl s) {id : Nat} {l : Loc} (hM : s.M id = some l) : l.g < s.w.heap.size := by
  obtain ⟨x, hx, hd⟩ := hI.has id l hM
  cases x with
  | blk m cs =>
    obtain ⟨arr, e, fr, h1, _⟩ := hI.blk id l m cs hM hx
    exact (Array.getElem?_eq_some_iff.1 h1).1
  | map m ks vs =>
    obtain ⟨es, k, h1, _⟩ := hI.map id l m ks vs hM hx
    exact (Array.getElem?_eq_some_iff.1 h1).1
  | dead => exact absurd rfl hd

/-! ### A draw; a new block -/

theorem Inv.drawn {gl : Nat → Option (List V)} {s : St} (hI : Inv gl s) (n : Nat) : Inv gl { s with w := { s.w with drawn := n } } ∧ Ext s { s with w := { s.w with drawn := n } } :=
  ⟨⟨hI.blk, hI.map, hI.has, hI.inj, hI.nf, hI.fs, hI.gls⟩, ⟨rfl, rfl, rfl, rfl, Nat.le_refl _, fun _ _ h => h, fun _ _ => rfl, fun _ _ h => .inl h, fun _ h => h⟩⟩

/-- A block that no object is. -/
theorem Inv.junk {gl : Nat → Option (List V)} {s : St} (hI : Inv gl s) (o : Obj) :
    Inv gl { s with w := s.w.alloc o } ∧ Ext s { s with w := s.w.alloc o } := by
  have hold : ∀ g x, s.w.heap[g]? = some x → (s.w.alloc o).heap[g]? = some x := fun g x h => by
    have := (Array.getElem?_eq_some_iff.1 h).1
    rw [heap_old _ _ this]; exact h
  have hE : Ext s { s with w := s.w.alloc o } := by
    refine ⟨rfl, rfl, rfl, rfl, by simp, fun g x h => ?_, fun g h => ?_, fun _ _ h => .inl h, fun _ h => h⟩
    · rw [St.rd_some] at h ⊢; exact ⟨h.1, hold _ _ h.2⟩
    · exact heap_old _ _ (hI.fs g h)
  refine ⟨⟨fun id l m cs h1 h2 => ?_, fun id l m ks vs h1 h2 => ?_, hI.has, hI.inj, hI.nf, fun g h => ?_, fun g cs h => hE.cr (hI.gls g cs h)⟩, hE⟩
  · obtain ⟨arr, e, fr, k1, k2, k3, k4, k5⟩ := hI.blk id l m cs h1 h2
    exact ⟨arr, e, fr, hold _ _ k1, k2, k3, k4, fun i x y a b => hE.vr (k5 i x y a b)⟩
  · obtain ⟨es, k, k1, k2, k3, k4, k5⟩ := hI.map id l m ks vs h1 h2
    exact ⟨es, k, hold _ _ k1, k2, k3, fun i x e a b => hE.vr (k4 i x e a b), fun i x e a b => hE.vr (k5 i x e a b)⟩
  · have := hI.fs g h
    simp; omega

/-- The objects, one of them set. -/
def setG {α : Type} (G : Nat → Option α) (id : Nat) (o : Option α) : Nat → Option α := fun i => if i = id then o else G i

@[simp] theorem setG_same {α : Type} (G : Nat → Option α) (id : Nat) (o : Option α) : setG G id o id = o := by simp [setG]
theorem setG_ne {α : Type} (G : Nat → Option α) {id i : Nat} (o : Option α) (h : i ≠ id) : setG G id o i = G i := by simp [setG, h]

/-- A new object of cells in the newest block. -/
theorem Inv.newBlk {gl : Nat → Option (List V)} {s : St} (hI : Inv gl s) (id : Nat) (hid : s.M id = none) (hd : ¬ s.dead id) (m : Bool) (cs : List V) (arr : Array Value) (e : TypeId) (hn : cs.length ≤ arr.size)
    (hr : ∀ (i : Nat) (x : V) (y : Value), cs[i]? = some x → arr[i]? = some y → s.vr x y) (fr : Nat × Nat) (hfr : m = true → fr = (0, 0)) :
    let s' : St := { s with G := setG s.G id (some (.blk m cs)), M := setG s.M id (some ⟨s.w.heap.size, 0, arr.size⟩), w := s.w.alloc (.cells arr e fr) }
    Inv gl s' ∧ Ext s s' := by
  intro s'
  have hold : ∀ g, g < s.w.heap.size → (s.w.alloc (.cells arr e fr)).heap[g]? = s.w.heap[g]? := fun g h => heap_old _ _ h
  have hnew : (s.w.alloc (.cells arr e fr)).heap[s.w.heap.size]? = some (.cells arr e fr) := heap_new _ _
  have hne : ∀ i l, s.M i = some l → i ≠ id := fun i l h hc => by subst hc; rw [hid] at h; cases h
  have hwr : ∀ g, g < s.w.heap.size → (s'.wr g ↔ s.wr g) := fun g hg => by
    unfold St.wr
    refine or_congr Iff.rfl ⟨?_, ?_⟩
    · rintro ⟨i, l, h1, rfl, h2⟩
      by_cases hi : i = id
      · subst hi
        simp only [s', setG_same, Option.some.injEq] at h1; subst h1; simp at hg
      · simp only [s', setG_ne _ _ hi] at h1 h2; exact ⟨i, l, h1, rfl, h2⟩
    · rintro ⟨i, l, h1, rfl, h2⟩
      refine ⟨i, l, ?_, rfl, ?_⟩
      · simp only [s', setG_ne _ _ (hne i l h1)]; exact h1
      · simp only [s', setG_ne _ _ (hne i l h1)]; exact h2
  have hE : Ext s s' := by
    refine ⟨rfl, rfl, rfl, rfl, by simp [s'], fun g x h => ?_, fun g h => hold g (hI.fs g h), fun i l h => .inl ?_, fun i h => ?_⟩
    · rw [St.rd_some] at h ⊢
      have hg := (Array.getElem?_eq_some_iff.1 h.2).1
      exact ⟨fun hc => h.1 ((hwr g hg).1 hc), by rw [← h.2]; exact hold g hg⟩
    · simp only [s', setG_ne _ _ (hne i l h)]; exact h
    · have : i ≠ id := fun hc => by subst hc; exact hd h
      unfold St.dead at h ⊢; simp only [s', setG_ne _ _ this]; exact h
  refine ⟨⟨fun i l m' cs' h1 h2 => ?_, fun i l m' ks vs h1 h2 => ?_, fun i l h1 => ?_, fun i j li lj h1 h2 h3 h4 => ?_, fun i l h1 => ?_, fun g h => ?_, fun g cs h => hE.cr (hI.gls g cs h)⟩, hE⟩
  · by_cases hi : i = id
    · subst hi
      simp only [s', setG_same, Option.some.injEq] at h1 h2
      subst h1; injection h2 with h2 h2'; subst h2 h2'
      exact ⟨arr, e, fr, hnew, rfl, by simpa using hn, hfr, fun j x y a b => hE.vr (hr j x y a (by simpa using b))⟩
    · simp only [s', setG_ne _ _ hi] at h1 h2
      obtain ⟨arr', e', fr', k1, k2, k3, k4, k5⟩ := hI.blk i l m' cs' h1 h2
      exact ⟨arr', e', fr', (hold _ (Loc_lt hI h1)).trans k1, k2, k3, k4, fun j x y a b => hE.vr (k5 j x y a b)⟩
  · by_cases hi : i = id
    · subst hi; simp only [s', setG_same, Option.some.injEq] at h2; cases h2
    · simp only [s', setG_ne _ _ hi] at h1 h2
      obtain ⟨es, k, k1, k2, k3, k4, k5⟩ := hI.map i l m' ks vs h1 h2
      exact ⟨es, k, (hold _ (Loc_lt hI h1)).trans k1, k2, k3, fun j x y a b => hE.vr (k4 j x y a b), fun j x y a b => hE.vr (k5 j x y a b)⟩
  · by_cases hi : i = id
    · subst hi; exact ⟨.blk m cs, by simp [s'], by simp⟩
    · simp only [s', setG_ne _ _ hi] at h1 ⊢; exact hI.has i l h1
  · by_cases hi : i = id <;> by_cases hj : j = id
    · rw [hi, hj]
    · subst hi
      simp only [s', setG_same, Option.some.injEq, setG_ne _ _ hj] at h1 h2; subst h1
      have := Loc_lt hI h2; simp at h3; omega
    · subst hj
      simp only [s', setG_same, Option.some.injEq, setG_ne _ _ hi] at h1 h2; subst h2
      have := Loc_lt hI h1; simp at h3; omega
    · simp only [s', setG_ne _ _ hi, setG_ne _ _ hj] at h1 h2 h4
      exact hI.inj i j li lj h1 h2 h3 h4
  · by_cases hi : i = id
    · subst hi; simp only [s', setG_same, Option.some.injEq] at h1; subst h1
      intro hc; have := hI.fs _ hc; simp at this
    · simp only [s', setG_ne _ _ hi] at h1; exact hI.nf i l h1
  · have := hI.fs g h; simp [s']; omega

/-- A new map in the newest block. -/
theorem Inv.newMap {gl : Nat → Option (List V)} {s : St} (hI : Inv gl s) (id : Nat) (hid : s.M id = none) (hd : ¬ s.dead id) :
    let s' : St := { s with G := setG s.G id (some (.map true [] [])), M := setG s.M id (some ⟨s.w.heap.size, 0, 0⟩), w := s.w.alloc (.map #[] 0) }
    Inv gl s' ∧ Ext s s' := by
  intro s'
  have hold : ∀ g, g < s.w.heap.size → (s.w.alloc (.map #[] 0)).heap[g]? = s.w.heap[g]? := fun g h => heap_old _ _ h
  have hnew : (s.w.alloc (.map #[] 0)).heap[s.w.heap.size]? = some (.map #[] 0) := heap_new _ _
  have hne : ∀ i l, s.M i = some l → i ≠ id := fun i l h hc => by subst hc; rw [hid] at h; cases h
  have hwr : ∀ g, g < s.w.heap.size → (s'.wr g ↔ s.wr g) := fun g hg => by
    unfold St.wr
    refine or_congr Iff.rfl ⟨?_, ?_⟩
    · rintro ⟨i, l, h1, rfl, h2⟩
      by_cases hi : i = id
      · subst hi
        simp only [s', setG_same, Option.some.injEq] at h1; subst h1; simp at hg
      · simp only [s', setG_ne _ _ hi] at h1 h2; exact ⟨i, l, h1, rfl, h2⟩
    · rintro ⟨i, l, h1, rfl, h2⟩
      refine ⟨i, l, ?_, rfl, ?_⟩
      · simp only [s', setG_ne _ _ (hne i l h1)]; exact h1
      · simp only [s', setG_ne _ _ (hne i l h1)]; exact h2
  have hE : Ext s s' := by
    refine ⟨rfl, rfl, rfl, rfl, by simp [s'], fun g x h => ?_, fun g h => hold g (hI.fs g h), fun i l h => .inl ?_, fun i h => ?_⟩
    · rw [St.rd_some] at h ⊢
      have hg := (Array.getElem?_eq_some_iff.1 h.2).1
      exact ⟨fun hc => h.1 ((hwr g hg).1 hc), by rw [← h.2]; exact hold g hg⟩
    · simp only [s', setG_ne _ _ (hne i l h)]; exact h
    · have : i ≠ id := fun hc => by subst hc; exact hd h
      unfold St.dead at h ⊢; simp only [s', setG_ne _ _ this]; exact h
  refine ⟨⟨fun i l m' cs' h1 h2 => ?_, fun i l m' ks vs h1 h2 => ?_, fun i l h1 => ?_, fun i j li lj h1 h2 h3 h4 => ?_, fun i l h1 => ?_, fun g h => ?_, fun g cs h => hE.cr (hI.gls g cs h)⟩, hE⟩
  · by_cases hi : i = id
    · subst hi; simp only [s', setG_same, Option.some.injEq] at h2; cases h2
    · simp only [s', setG_ne _ _ hi] at h1 h2
      obtain ⟨arr', e', fr', k1, k2, k3, k4, k5⟩ := hI.blk i l m' cs' h1 h2
      exact ⟨arr', e', fr', (hold _ (Loc_lt hI h1)).trans k1, k2, k3, k4, fun j x y a b => hE.vr (k5 j x y a b)⟩
  · by_cases hi : i = id
    · subst hi
      simp only [s', setG_same, Option.some.injEq] at h1 h2
      subst h1; injection h2 with h2 h2' h2''; subst h2 h2' h2''
      exact ⟨#[], 0, hnew, rfl, rfl, fun j x e a => by simp at a, fun j x e a => by simp at a⟩
    · simp only [s', setG_ne _ _ hi] at h1 h2
      obtain ⟨es, k, k1, k2, k3, k4, k5⟩ := hI.map i l m' ks vs h1 h2
      exact ⟨es, k, (hold _ (Loc_lt hI h1)).trans k1, k2, k3, fun j x y a b => hE.vr (k4 j x y a b), fun j x y a b => hE.vr (k5 j x y a b)⟩
  · by_cases hi : i = id
    · subst hi; exact ⟨.map true [] [], by simp [s'], by simp⟩
    · simp only [s', setG_ne _ _ hi] at h1 ⊢; exact hI.has i l h1
  · by_cases hi : i = id <;> by_cases hj : j = id
    · rw [hi, hj]
    · subst hi
      simp only [s', setG_same, Option.some.injEq, setG_ne _ _ hj] at h1 h2; subst h1
      have := Loc_lt hI h2; simp at h3; omega
    · subst hj
      simp only [s', setG_same, Option.some.injEq, setG_ne _ _ hi] at h1 h2; subst h2
      have := Loc_lt hI h1; simp at h3; omega
    · simp only [s', setG_ne _ _ hi, setG_ne _ _ hj] at h1 h2 h4
      exact hI.inj i j li lj h1 h2 h3 h4
  · by_cases hi : i = id
    · subst hi; simp only [s', setG_same, Option.some.injEq] at h1; subst h1
      intro hc; have := hI.fs _ hc; simp at this
    · simp only [s', setG_ne _ _ hi] at h1; exact hI.nf i l h1
  · have := hI.fs g h; simp [s']; omega

/-! ### A write: an object's block, and nothing else, is changed -/

theorem Inv.write {gl : Nat → Option (List V)} {s : St} (hI : Inv gl s) (id : Nat) (l : Loc) (hM : s.M id = some l) (hmut : isMut (s.G id)) (o : Ob) (ho : o.mut = true) (w' : World)
    (hos : w'.os = s.w.os) (htape : w'.tape = s.w.tape) (hout : w'.output = s.w.output) (hsize : w'.heap.size = s.w.heap.size) (hoth : ∀ g, g ≠ l.g → w'.heap[g]? = s.w.heap[g]?)
    (hblk : ∀ cs, o = .blk true cs → ∃ arr e, w'.heap[l.g]? = some (.cells arr e (0, 0)) ∧ arr.size = l.x ∧ l.b + cs.length ≤ l.x ∧ ∀ (i : Nat) (x : V) (y : Value), cs[i]? = some x → arr[l.b + i]? = some y → s.vr x y)
    (hmap : ∀ ks vs, o = .map true ks vs → ∃ es k, w'.heap[l.g]? = some (.map es k) ∧ es.size = ks.length ∧ ks.length = vs.length ∧
      (∀ (i : Nat) (x : V) (e : MapEntry), ks[i]? = some x → es[i]? = some e → s.vr x e.key) ∧ (∀ (i : Nat) (x : V) (e : MapEntry), vs[i]? = some x → es[i]? = some e → s.vr x e.val)) :
    let s' : St := { s with G := setG s.G id (some o), w := w' }
    Inv gl s' ∧ Ext s s' := by
  intro s'
  have hmutG : ∀ i, isMut (s'.G i) ↔ isMut (s.G i) := fun i => by
    by_cases hi : i = id
    · subst hi; simp only [s', setG_same]; exact ⟨fun _ => hmut, fun _ => ⟨o, rfl, ho⟩⟩
    · simp only [s', setG_ne _ _ hi]
  have hwr : ∀ g, s'.wr g ↔ s.wr g := fun g => by
    unfold St.wr
    refine or_congr Iff.rfl ⟨?_, ?_⟩ <;> rintro ⟨i, l', h1, rfl, h2⟩
    · exact ⟨i, l', h1, rfl, (hmutG i).1 h2⟩
    · exact ⟨i, l', h1, rfl, (hmutG i).2 h2⟩
  have hlw : s.wr l.g := .inr ⟨id, l, hM, rfl, hmut⟩
  have hnd : ¬ s.dead id := fun hc => by
    obtain ⟨x, hx, hm⟩ := hmut
    unfold St.dead at hc; rw [hc] at hx; injection hx with hx; subst hx; simp [Ob.mut] at hm
  have hE : Ext s s' := by
    refine ⟨rfl, hos, htape, hout, by simp [s', hsize], fun g x h => ?_, fun g h => hoth g (fun hc => ?_), fun i l h => .inl h, fun i h => ?_⟩
    · rw [St.rd_some] at h ⊢
      have hne : g ≠ l.g := fun hc => by subst hc; exact h.1 hlw
      exact ⟨fun hc => h.1 ((hwr g).1 hc), (hoth g hne).trans h.2⟩
    · subst hc; exact hI.nf _ _ hM h
    · have : i ≠ id := fun hc => by subst hc; exact hnd h
      unfold St.dead at h ⊢; simp only [s', setG_ne _ _ this]; exact h
  have hgne : ∀ i li, s.M i = some li → i ≠ id → li.g ≠ l.g := fun i li h hi hc => hi (hI.inj id i l li hM h hc.symm hmut).symm
  refine ⟨⟨fun i li m' cs' h1 h2 => ?_, fun i li m' ks vs h1 h2 => ?_, fun i li h1 => ?_, fun i j li lj h1 h2 h3 h4 => hI.inj i j li lj h1 h2 h3 ((hmutG i).1 h4), hI.nf, fun g h => by simp only [s', hsize]; exact hI.fs g h, fun g cs h => hE.cr (hI.gls g cs h)⟩, hE⟩
  · by_cases hi : i = id
    · subst hi
      simp only [s', setG_same, Option.some.injEq] at h2
      have h1' : s.M i = some li := h1
      rw [hM, Option.some.injEq] at h1'; subst h1'
      have hm' : m' = true := by rw [h2] at ho; simpa [Ob.mut] using ho
      subst hm'
      obtain ⟨arr, e, k1, k2, k3, k4⟩ := hblk cs' h2
      exact ⟨arr, e, (0, 0), k1, k2, k3, fun _ => rfl, fun j x y a b => hE.vr (k4 j x y a b)⟩
    · simp only [s', setG_ne _ _ hi] at h1 h2
      obtain ⟨arr', e', fr', k1, k2, k3, k4, k5⟩ := hI.blk i li m' cs' h1 h2
      exact ⟨arr', e', fr', (hoth _ (hgne i li h1 hi)).trans k1, k2, k3, k4, fun j x y a b => hE.vr (k5 j x y a b)⟩
  · by_cases hi : i = id
    · subst hi
      simp only [s', setG_same, Option.some.injEq] at h2
      have h1' : s.M i = some li := h1
      rw [hM, Option.some.injEq] at h1'; subst h1'
      have hm' : m' = true := by rw [h2] at ho; simpa [Ob.mut] using ho
      subst hm'
      obtain ⟨es, k, k1, k2, k3, k4, k5⟩ := hmap ks vs h2
      exact ⟨es, k, k1, k2, k3, fun j x e a b => hE.vr (k4 j x e a b), fun j x e a b => hE.vr (k5 j x e a b)⟩
    · simp only [s', setG_ne _ _ hi] at h1 h2
      obtain ⟨es, k, k1, k2, k3, k4, k5⟩ := hI.map i li m' ks vs h1 h2
      exact ⟨es, k, (hoth _ (hgne i li h1 hi)).trans k1, k2, k3, fun j x y a b => hE.vr (k4 j x y a b), fun j x y a b => hE.vr (k5 j x y a b)⟩
  · by_cases hi : i = id
    · subst hi; exact ⟨o, by simp [s'], fun hc => by subst hc; simp [Ob.mut] at ho⟩
    · simp only [s', setG_ne _ _ hi]; exact hI.has i li h1

/-! ### Objects that are written no more -/

/-- 'G'' has the objects of 'G', of some of which it says that they stay as they are. -/
def Froz (G G' : Nat → Option Ob) : Prop := ∀ i, G' i = G i ∨ G' i = (G i).map Ob.frozen

theorem isMut_of_froz {G G' : Nat → Option Ob} (h : Froz G G') (i : Nat) (hm : isMut (G' i)) : isMut (G i) ∧ G' i = G i := by
  rcases h i with e | e
  · exact ⟨e ▸ hm, e⟩
  · rw [e] at hm
    obtain ⟨x, hx, hxm⟩ := hm
    rw [Option.map_eq_some_iff] at hx
    obtain ⟨y, _, rfl⟩ := hx
    cases y <;> simp [Ob.frozen, Ob.mut] at hxm

theorem frozen_blk {o : Option Ob} {m : Bool} {cs : List V} (h : o.map Ob.frozen = some (.blk m cs)) : m = false ∧ ∃ m', o = some (.blk m' cs) := by
  rw [Option.map_eq_some_iff] at h
  obtain ⟨y, rfl, hy⟩ := h
  cases y <;> simp [Ob.frozen] at hy
  obtain ⟨rfl, rfl⟩ := hy
  exact ⟨rfl, _, rfl⟩

theorem frozen_map {o : Option Ob} {m : Bool} {ks vs : List V} (h : o.map Ob.frozen = some (.map m ks vs)) : m = false ∧ ∃ m', o = some (.map m' ks vs) := by
  rw [Option.map_eq_some_iff] at h
  obtain ⟨y, rfl, hy⟩ := h
  cases y <;> simp [Ob.frozen] at hy
  obtain ⟨rfl, rfl, rfl⟩ := hy
  exact ⟨rfl, _, rfl⟩

theorem frozen_dead {o : Option Ob} : o.map Ob.frozen = some .dead ↔ o = some .dead := by
  constructor
  · intro h
    rw [Option.map_eq_some_iff] at h
    obtain ⟨y, rfl, hy⟩ := h
    cases y <;> simp [Ob.frozen] at hy
    rfl
  · rintro rfl; rfl

theorem Inv.froz {gl : Nat → Option (List V)} {s : St} (hI : Inv gl s) (G' : Nat → Option Ob) (hG : Froz s.G G') :
    let s' : St := { s with G := G' }
    Inv gl s' ∧ Ext s s' := by
  intro s'
  have hwr : ∀ g, s'.wr g → s.wr g := fun g h => by
    rcases h with h | ⟨i, l, h1, h2, h3⟩
    · exact .inl h
    · exact .inr ⟨i, l, h1, h2, (isMut_of_froz hG i h3).1⟩
  have hdead : ∀ i, s'.dead i ↔ s.dead i := fun i => by
    unfold St.dead
    rcases hG i with e | e
    · show G' i = _ ↔ _; rw [e]
    · show G' i = _ ↔ _; rw [e]; exact frozen_dead
  have hE : Ext s s' := ⟨rfl, rfl, rfl, rfl, Nat.le_refl _, fun g x h => by
    rw [St.rd_some] at h ⊢; exact ⟨fun hc => h.1 (hwr g hc), h.2⟩, fun _ _ => rfl, fun _ _ h => .inl h, fun i h => (hdead i).2 h⟩
  refine ⟨⟨fun i l m cs h1 h2 => ?_, fun i l m ks vs h1 h2 => ?_, fun i l h1 => ?_, fun i j li lj h1 h2 h3 h4 => hI.inj i j li lj h1 h2 h3 (isMut_of_froz hG i h4).1, hI.nf, hI.fs, fun g cs h => hE.cr (hI.gls g cs h)⟩, hE⟩
  · have h2' : G' i = some (.blk m cs) := h2
    rcases hG i with e | e
    · rw [e] at h2'
      obtain ⟨arr, e', fr, k1, k2, k3, k4, k5⟩ := hI.blk i l m cs h1 h2'
      exact ⟨arr, e', fr, k1, k2, k3, k4, fun j x y a b => hE.vr (k5 j x y a b)⟩
    · rw [e] at h2'
      obtain ⟨rfl, m', h3⟩ := frozen_blk h2'
      obtain ⟨arr, e', fr, k1, k2, k3, k4, k5⟩ := hI.blk i l m' cs h1 h3
      exact ⟨arr, e', fr, k1, k2, k3, fun h => (by cases h), fun j x y a b => hE.vr (k5 j x y a b)⟩
  · have h2' : G' i = some (.map m ks vs) := h2
    have : ∃ m', s.G i = some (.map m' ks vs) := by
      rcases hG i with e | e
      · exact ⟨m, by rw [← e]; exact h2'⟩
      · rw [e] at h2'; exact (frozen_map h2').2
    obtain ⟨m', h3⟩ := this
    obtain ⟨es, k, k1, k2, k3, k4, k5⟩ := hI.map i l m' ks vs h1 h3
    exact ⟨es, k, k1, k2, k3, fun j x y a b => hE.vr (k4 j x y a b), fun j x y a b => hE.vr (k5 j x y a b)⟩
  · obtain ⟨o, ho, hd⟩ := hI.has i l h1
    rcases hG i with e | e
    · exact ⟨o, by show G' i = _; rw [e, ho], hd⟩
    · refine ⟨o.frozen, by show G' i = _; rw [e, ho]; rfl, ?_⟩
      cases o <;> simp [Ob.frozen] at hd ⊢

/-! ### An object that is gone -/

theorem Inv.kill {gl : Nat → Option (List V)} {s : St} (hI : Inv gl s) (id : Nat) :
    let s' : St := { s with G := setG s.G id (some .dead), M := setG s.M id none }
    Inv gl s' ∧ Ext s s' := by
  intro s'
  have hne : ∀ i l, s'.M i = some l → i ≠ id := fun i l h hc => by subst hc; simp [s'] at h
  have hM : ∀ i l, s'.M i = some l → s.M i = some l := fun i l h => by
    have := hne i l h; simp only [s', setG_ne _ _ this] at h; exact h
  have hG : ∀ i, i ≠ id → s'.G i = s.G i := fun i h => by simp only [s', setG_ne _ _ h]
  have hwr : ∀ g, s'.wr g → s.wr g := fun g h => by
    rcases h with h | ⟨i, l, h1, h2, h3⟩
    · exact .inl h
    · exact .inr ⟨i, l, hM i l h1, h2, by rw [← hG i (hne i l h1)]; exact h3⟩
  have hE : Ext s s' := ⟨rfl, rfl, rfl, rfl, Nat.le_refl _, fun g x h => by
    rw [St.rd_some] at h ⊢; exact ⟨fun hc => h.1 (hwr g hc), h.2⟩, fun _ _ => rfl, fun i l h => by
      by_cases hi : i = id
      · subst hi; right; simp [St.dead, s']
      · left; simp only [s', setG_ne _ _ hi]; exact h, fun i h => by
      by_cases hi : i = id
      · subst hi; simp [St.dead, s']
      · unfold St.dead at h ⊢; rw [hG i hi]; exact h⟩
  refine ⟨⟨fun i l m cs h1 h2 => ?_, fun i l m ks vs h1 h2 => ?_, fun i l h1 => ?_, fun i j li lj h1 h2 h3 h4 => hI.inj i j li lj (hM _ _ h1) (hM _ _ h2) h3 (by rw [← hG i (hne _ _ h1)]; exact h4), fun i l h => hI.nf i l (hM i l h), hI.fs, fun g cs h => hE.cr (hI.gls g cs h)⟩, hE⟩
  · rw [hG i (hne _ _ h1)] at h2
    obtain ⟨arr, e', fr, k1, k2, k3, k4, k5⟩ := hI.blk i l m cs (hM _ _ h1) h2
    exact ⟨arr, e', fr, k1, k2, k3, k4, fun j x y a b => hE.vr (k5 j x y a b)⟩
  · rw [hG i (hne _ _ h1)] at h2
    obtain ⟨es, k, k1, k2, k3, k4, k5⟩ := hI.map i l m ks vs (hM _ _ h1) h2
    exact ⟨es, k, k1, k2, k3, fun j x y a b => hE.vr (k4 j x y a b), fun j x y a b => hE.vr (k5 j x y a b)⟩
  · rw [hG i (hne _ _ h1)]; exact hI.has i l (hM _ _ h1)

end Go.Am
