/-
  THE LAW'S CALL, from a world as it lies. Conditions: kidCounts holds what it was laid with; the variable MaxLen holds a number.
-/
import Derived.Test.YtnfhojipjhcjjaaGreatDoorEa2
import Derived.Test.YtnfhojipjhcjjaaGreatDoorEa18
import Derived.Test.YtnfhojipjhcjjaaGreatDoorEa19
namespace Go.Proofs
namespace Ea
open Go.Am
set_option autoImplicit false
set_option linter.unusedVariables false
set_option linter.unusedSimpArgs false
set_option maxRecDepth 100000
set_option maxHeartbeats 4000000

theorem lookS_ok : ∀ {l : List (FuncId × (List V → Option Tr))}, (∀ p ∈ l, ∀ xs r v, p.2 xs = some r → runTr r some = some v → Ans E p.1 xs v) → SpOK E (lookS l)
  | [], _ => fun f xs r v e => by cases e
  | (g, c) :: l, h => fun f xs r v e q hi => by
    unfold lookS at e
    split at e
    · rename_i hf
      have : f = g := by simpa using hf
      subst this
      exact h _ List.mem_cons_self xs r v e q
    · exact lookS_ok (fun p hp => h p (List.mem_cons_of_mem _ hp)) f xs r v e q hi

theorem okL {K : Int} (hK : K = 2 ∨ K = 3) : SpOK E (spL K) := by
  refine lookS_ok fun p hp => ?_
  simp only [List.mem_cons, List.mem_nil_iff, or_false] at hp
  rcases hp with rfl | rfl | rfl | rfl | rfl | rfl | rfl | rfl
  · exact a7
  · exact a28
  · exact a8
  · exact a26 K hK
  · exact a27
  · exact a30
  · exact a21
  · exact a18

theorem law_ans {K : Int} (hK : K = 2 ∨ K = 3) {l m : V} (hl : okI l = true) (hm : okI m = true) {sort i k n : Int} (hs : (around (sortN sort n) 1048576).tmod 4 = K) : Ans E 5 [.int .i64 sort, l, m, .int .i64 i, .int .i64 k, .int .i64 n] (.bool true) := by
  have h := lawT_true (i := i) (k := k) hK hl hm hs
  have key : fnX E (spL K) 40 c5 [.int .i64 sort, l, m, .int .i64 i, .int .i64 k, .int .i64 n] = some (.bool true) := by
    rw [← h]
    rcases okI_cases hl with rfl | ⟨cs, rfl⟩
    · rcases okI_cases hm with rfl | ⟨ds, rfl⟩
      · rcases hK with rfl | rfl
        · exact x5_2_nn sort i k n
        · exact x5_3_nn sort i k n
      · rcases hK with rfl | rfl
        · exact x5_2_ni sort i k n ds ds.length
        · exact x5_3_ni sort i k n ds ds.length
    · rcases okI_cases hm with rfl | ⟨ds, rfl⟩
      · rcases hK with rfl | rfl
        · exact x5_2_in sort i k n cs cs.length
        · exact x5_3_in sort i k n cs cs.length
      · rcases hK with rfl | rfl
        · exact x5_2_ii sort i k n cs ds cs.length ds.length
        · exact x5_3_ii sort i k n cs ds cs.length ds.length
  exact fnX_ans (okL hK) rfl (by kernel_rfl) rfl key

/-! ### The environment -/

theorem inv_below {g : Nat → Option (List V)} {s : St} (hI : Inv g s) {w' : World} (hb : Go.RowKit.Below s.w.heap.size s.w w') : Inv g { s with w := w' } ∧ Ext s { s with w := w' } := by
  have hold : ∀ g x, s.w.heap[g]? = some x → w'.heap[g]? = some x := fun g x h => by
    have := (Array.getElem?_eq_some_iff.1 h).1
    rw [hb.block g this]; exact h
  have hE : Ext s { s with w := w' } := by
    refine ⟨rfl, hb.os, hb.tape, hb.output, hb.size, fun g x h => ?_, fun g h => ?_, fun _ _ h => .inl h, fun _ h => h⟩
    · rw [St.rd_some] at h ⊢; exact ⟨h.1, hold _ _ h.2⟩
    · exact hb.block g (hI.fs g h)
  refine ⟨⟨fun id l m cs h1 h2 => ?_, fun id l m ks vs h1 h2 => ?_, hI.has, hI.inj, hI.nf, fun g h => ?_, fun g cs h => hE.cr (hI.gls g cs h)⟩, hE⟩
  · obtain ⟨arr, e, fr, k1, k2, k3, k4, k5⟩ := hI.blk id l m cs h1 h2
    exact ⟨arr, e, fr, hold _ _ k1, k2, k3, k4, fun i x y a b => hE.vr (k5 i x y a b)⟩
  · obtain ⟨es, k, k1, k2, k3, k4, k5⟩ := hI.map id l m ks vs h1 h2
    exact ⟨es, k, hold _ _ k1, k2, k3, fun i x e a b => hE.vr (k4 i x e a b), fun i x e a b => hE.vr (k5 i x e a b)⟩
  · exact Nat.lt_of_lt_of_le (hI.fs g h) hb.size

theorem cr_str {rd : Nat → Option Obj} {l : List UInt8} {c : Value} (h : CRel rd (.str l) c) : c = .string ⟨l.toArray⟩ := by
  cases h with
  | str l s h =>
    subst h
    rfl

theorem cr_int {rd : Nat → Option Obj} {k : IntKind} {n : Int} {c : Value} (h : CRel rd (.int k n) c) : c = .int k n := by
  cases h; rfl

theorem arr2 {a : Array Value} (h : 2 = a.size) : ∃ x y, a = #[x, y] ∧ a[0]? = some x ∧ a[1]? = some y := by
  obtain ⟨l⟩ := a
  match l, h with
  | [x, y], _ => exact ⟨x, y, rfl, rfl, rfl⟩

theorem arr4 {a : Array Value} (h : 4 = a.size) : ∃ x y z u, a = #[x, y, z, u] ∧ a[0]? = some x ∧ a[1]? = some y ∧ a[2]? = some z ∧ a[3]? = some u := by
  obtain ⟨l⟩ := a
  match l, h with
  | [x, y, z, u], _ => exact ⟨x, y, z, u, rfl, rfl, rfl, rfl, rfl⟩

theorem gl_cell {m : Int} {s : St} (hI : Inv (gl m) s) : s.w.cell? ⟨1, 0, none⟩ = some (.int .i64 m) := by
  have h := hI.gls 1 [.int .i64 m] rfl
  generalize hv : V.imm [V.int .i64 m] = v at h
  generalize hp : Value.pointer (some ⟨1, 0, none⟩) = p at h
  cases h with
  | imm cs g off arr e fr hg hl hr =>
    cases hp
    cases hv
    have h0 := hl 0 (Nat.lt_add_one 0)
    have hx := cr_int (hr 0 (.int .i64 m) arr[0] rfl (by rw [Nat.zero_add]; exact Array.getElem?_eq_getElem h0))
    unfold World.cell?
    rw [(St.rd_some.1 hg).2]
    show arr[0]? = _
    rw [Array.getElem?_eq_getElem h0, hx]
  | _ => cases hv

theorem envOK (m : Int) : EnvOK Tryz.prog (gl m) E where
  follows := by kernel_rfl
  code := code_ok m
  extI := fun f g e => by
    unfold E ext at e
    simp only at e
    split at e
    · rename_i hf; subst hf; exact ⟨rfl, _, Tryz.func161, by kernel_rfl, by kernel_rfl⟩
    · split at e
      · rename_i hf; subst hf; exact ⟨rfl, _, Tryz.func163, by kernel_rfl, by kernel_rfl⟩
      · cases e
  extOK := fun f g xs v args s e hv hI hn hr => by
    unfold E ext at e
    simp only at e
    split at e
    · rename_i hf
      subst hf
      cases e
      unfold ix161 at hv
      split at hv
      · rename_i s0 t
        obtain ⟨x, y, rfl, g0, g1⟩ := arr2 hn
        have hx := cr_str (hr 0 _ _ rfl g0)
        have hy := cr_str (hr 1 _ _ rfl g1)
        subst hx hy
        split at hv
        · rename_i hs
          subst hs
          split at hv
          · rename_i ht
            subst ht
            cases hv
            exact (Tryz.strings_Index_one ⟨[97, 98, 97].toArray⟩ 98 s.w).mono fun e w' ⟨h1, h2⟩ => by
              subst h2
              exact ⟨s, .int .i64 1, h1, rfl, hI, Ext.refl s, rfl, rfl, .int _ _⟩
          · split at hv
            · rename_i ht
              subst ht
              cases hv
              exact (Tryz.strings_Index_one ⟨[97, 98, 97].toArray⟩ 99 s.w).mono fun e w' ⟨h1, h2⟩ => by
                subst h2
                exact ⟨s, .int .i64 (-1), h1, rfl, hI, Ext.refl s, rfl, rfl, .int _ _⟩
            · cases hv
        · cases hv
      · cases hv
    · split at e
      · rename_i hf
        subst hf
        cases e
        unfold rp163 at hv
        split at hv
        · rename_i s0 t u n
          obtain ⟨x, y, z, q, rfl, g0, g1, g2, g3⟩ := arr4 hn
          have hx := cr_str (hr 0 _ _ rfl g0)
          have hy := cr_str (hr 1 _ _ rfl g1)
          have hz := cr_str (hr 2 _ _ rfl g2)
          have hq := cr_int (hr 3 _ _ rfl g3)
          subst hx hy hz hq
          split at hv
          · rename_i hs
            obtain ⟨rfl, rfl, rfl, rfl⟩ := hs
            cases hv
            exact (Tryz.strings_Replace ⟨[97, 98, 97].toArray⟩ ⟨[97].toArray⟩ ⟨[99, 99].toArray⟩ 1 m s.w (by decide) (gl_cell hI) (by decide) (by decide)).mono fun e w' ⟨h1, h2⟩ => by
              obtain ⟨k1, k2⟩ := inv_below hI h2
              exact ⟨{ s with w := w' }, .string ⟨[99, 99, 98, 97].toArray⟩, h1, rfl, k1, k2, rfl, rfl, .str _ _ rfl⟩
          · cases hv
        · cases hv
      · cases e

/-- The call. -/
theorem law_calls {w : World} {m : Int} (hgl : ∀ g cs, gl m g = some cs → CRel (fun g => w.heap[g]?) (.imm cs) (.pointer (some ⟨g, 0, none⟩))) {K : Int} (hK : K = 2 ∨ K = 3) {l1 l2 : V} (hl : okI l1 = true) (hm : okI l2 = true) {sort i k n : Int}
    (hs : (around (sortN sort n) 1048576).tmod 4 = K) {v1 v2 : Value} (h1 : CRel (fun g => w.heap[g]?) l1 v1) (h2 : CRel (fun g => w.heap[g]?) l2 v2) :
    Calls Tryz.prog 5 #[.int .i64 sort, v1, v2, .int .i64 i, .int .i64 k, .int .i64 n] w fun e w' => e = .returned (.bool true) ∧ Go.RowKit.Below w.heap.size w w' := by
  have hf : ∀ l : V, okI l = true → frz [] 40 l = some (l, []) := by
    intro l hl
    rcases okI_cases hl with rfl | ⟨cs, rfl⟩
    · exact frz_nils _
    · exact frz_isl _ _ _ _
  have ha := law_ans (i := i) (k := k) hK hl hm hs [.int .i64 sort, l1, l2, .int .i64 i, .int .i64 k, .int .i64 n] [] []
    (frzs_cons (js := []) (frz_int _ _ _) (frzs_cons (js := []) (hf l1 hl) (frzs_cons (js := []) (hf l2 hm) (frzs_cons (js := []) (frz_int _ _ _) (frzs_cons (js := []) (frz_int _ _ _) (frzs_cons (js := []) (frz_int _ _ _) (frzs_nil _)))))))
  obtain ⟨N, hN⟩ := ha
  refine top (envOK m) hgl (n := N) (f := 5) (h' := []) rfl (hN N (Nat.le_refl _)) rfl ?_
  intro j x y hx hy
  match j, hx, hy with
  | 0, hx, hy => cases hx; cases hy; exact .int _ _
  | 1, hx, hy => cases hx; cases hy; exact h1
  | 2, hx, hy => cases hx; cases hy; exact h2
  | 3, hx, hy => cases hx; cases hy; exact .int _ _
  | 4, hx, hy => cases hx; cases hy; exact .int _ _
  | 5, hx, hy => cases hx; cases hy; exact .int _ _
  | j + 6, hx, hy => cases hx
end Ea
end Go.Proofs
