/-
  THE PLAIN LAW of arrays, and that the program's tree answers true. Conditions: as each theorem names them.
-/
import Derived.Test.YtnfhojipjhcjjaaGreatDoorEa17
namespace Go.Proofs
namespace Ea
open Go.Am
set_option autoImplicit false
set_option linter.unusedVariables false
set_option linter.unusedSimpArgs false
set_option maxRecDepth 100000
set_option maxHeartbeats 4000000

/-! ### Lists of entries -/

theorem vm_cons {K N I lo : Int} {e : Ent} {r : List Ent} (h : vmB K N I lo (e :: r) = true) : lo ≤ e.1 ∧ e.1 < 2 ^ I.toNat ∧ okE K N e.2.1 e.2.2 = true ∧ vmB K N I (e.1 + 1) r = true := by
  unfold vmB at h
  simp only [Bool.and_eq_true, decide_eq_true_eq] at h
  exact ⟨h.1.1.1, h.1.1.2, h.1.2, h.2⟩

theorem selL_low {K N I ix : Int} : ∀ {l : List Ent} {lo : Int}, vmB K N I lo l = true → ix < lo → selL ix l = (0, [])
  | [], _, _, _ => rfl
  | e :: r, lo, h, hi => by
    obtain ⟨h1, _, _, h2⟩ := vm_cons h
    unfold selL
    rw [if_neg (by omega)]
    exact selL_low h2 (by omega)

theorem sel_ins_same {K N I ix u : Int} {s : List UInt8} {r : List Ent} (hz : ¬ 0 < u → ¬ 0 < (s.length : Int) → u = 0 ∧ s = []) (h : vmB K N I (ix + 1) r = true) : selL ix (ins ix u s r) = (u, s) := by
  unfold ins
  split
  · unfold selL; rw [if_pos rfl]
  · split
    · unfold selL; rw [if_pos rfl]
    · rename_i h1 h2
      obtain ⟨rfl, rfl⟩ := hz h1 h2
      exact selL_low h (by omega)

theorem sel_put_same {K N I ix u : Int} {s : List UInt8} (hz : ¬ 0 < u → ¬ 0 < (s.length : Int) → u = 0 ∧ s = []) : ∀ {l : List Ent} {lo : Int}, vmB K N I lo l = true → selL ix (putL ix u s l) = (u, s)
  | [], lo, _ => sel_ins_same (K := K) (N := N) (I := I) hz rfl
  | e :: r, lo, h => by
    obtain ⟨h1, h3, h4, h2⟩ := vm_cons h
    unfold putL
    split
    · unfold selL
      rw [if_neg (by omega)]
      exact sel_put_same hz h2
    · refine sel_ins_same (K := K) (N := N) (I := I) hz ?_
      split
      · rename_i he; rw [← he]; exact h2
      · unfold vmB
        simp only [Bool.and_eq_true, decide_eq_true_eq]
        exact ⟨⟨⟨by omega, h3⟩, h4⟩, h2⟩

theorem sel_ins_other {ix iy u : Int} {s : List UInt8} {r : List Ent} (hne : ix ≠ iy) : selL iy (ins ix u s r) = selL iy r := by
  unfold ins
  split
  · rw [selL, if_neg hne]
  · split
    · rw [selL, if_neg hne]
    · rfl

theorem sel_put_other {ix iy u : Int} {s : List UInt8} (hne : ix ≠ iy) : ∀ {l : List Ent}, selL iy (putL ix u s l) = selL iy l
  | [] => sel_ins_other hne
  | e :: r => by
    unfold putL
    split
    · rw [selL, selL, sel_put_other hne]
    · rw [sel_ins_other hne]
      split
      · rename_i he; rw [selL, if_neg (by omega)]
      · rfl

theorem okE_ne {K N u : Int} {s : List UInt8} (hK : K = 2 ∨ K = 3) (h : okE K N u s = true) : (u, s) ≠ (0, []) := by
  rcases hK with rfl | rfl
  · rw [okE_2] at h
    intro e
    cases e
    omega
  · rw [okE_3] at h
    intro e
    cases e
    exact h.1.2 rfl

theorem two_pos (b : Nat) : (0 : Int) < 2 ^ b := by
  have h1 : 0 < 2 ^ b := Nat.two_pow_pos b
  have e : ((2 : Int) ^ b) = ((2 ^ b : Nat) : Int) := by rw [Int.natCast_pow]; rfl
  rw [e]
  omega

theorem diffL_range {K N I : Int} : ∀ {l q : List Ent} {lo : Int}, 0 ≤ lo → vmB K N I lo l = true → vmB K N I lo q = true → 0 ≤ diffL l q ∧ diffL l q < 2 ^ I.toNat
  | [], [], lo, _, _, _ => by
    unfold diffL
    exact ⟨Int.le_refl 0, two_pos _⟩
  | [], e :: r, lo, h0, _, h => by
    obtain ⟨h1, h2, _, _⟩ := vm_cons h
    unfold diffL
    omega
  | e :: r, [], lo, h0, h, _ => by
    obtain ⟨h1, h2, _, _⟩ := vm_cons h
    unfold diffL
    omega
  | e :: r, f :: q, lo, h0, h, h' => by
    obtain ⟨h1, h2, _, h3⟩ := vm_cons h
    obtain ⟨k1, k2, _, k3⟩ := vm_cons h'
    unfold diffL
    split
    · rename_i hef
      subst hef
      exact diffL_range (by omega) h3 k3
    · split <;> omega

theorem diffL_ge {K N I : Int} : ∀ {l q : List Ent} {lo : Int}, vmB K N I lo l = true → vmB K N I lo q = true → l ≠ q → lo ≤ diffL l q
  | [], [], lo, _, _, h => absurd rfl h
  | [], e :: r, lo, _, h, _ => by unfold diffL; exact (vm_cons h).1
  | e :: r, [], lo, h, _, _ => by unfold diffL; exact (vm_cons h).1
  | e :: r, f :: q, lo, h, h', hne => by
    obtain ⟨h1, h2, _, h3⟩ := vm_cons h
    obtain ⟨k1, k2, _, k3⟩ := vm_cons h'
    unfold diffL
    split
    · rename_i hef
      subst hef
      have := diffL_ge h3 k3 (fun e => hne (by rw [e]))
      omega
    · split <;> omega

theorem diff_law {K N I : Int} (hK : K = 2 ∨ K = 3) : ∀ {l q : List Ent} {lo : Int}, vmB K N I lo l = true → vmB K N I lo q = true → (selL (diffL l q) l = selL (diffL l q) q ↔ l = q)
  | [], [], lo, _, _ => ⟨fun _ => rfl, fun _ => rfl⟩
  | [], e :: r, lo, _, h => by
    obtain ⟨h1, h2, h3, h4⟩ := vm_cons h
    unfold diffL
    refine ⟨fun k => ?_, fun k => by cases k⟩
    rw [selL, selL, if_pos rfl] at k
    exact absurd k.symm (okE_ne hK h3)
  | e :: r, [], lo, h, _ => by
    obtain ⟨h1, h2, h3, h4⟩ := vm_cons h
    unfold diffL
    refine ⟨fun k => ?_, fun k => by cases k⟩
    rw [selL, selL, if_pos rfl] at k
    exact absurd k (okE_ne hK h3)
  | e :: r, f :: q, lo, h, h' => by
    obtain ⟨h1, h2, h3, h4⟩ := vm_cons h
    obtain ⟨k1, k2, k3, k4⟩ := vm_cons h'
    unfold diffL
    split
    · rename_i hef
      subst hef
      refine ⟨fun k => ?_, fun k => by rw [k]⟩
      by_cases hrq : r = q
      · rw [hrq]
      · have := diffL_ge h4 k4 hrq
        rw [selL, selL, if_neg (by omega), if_neg (by omega)] at k
        exact absurd ((diff_law hK h4 k4).1 k) hrq
    · rename_i hef
      refine ⟨fun k => ?_, fun k => ?_⟩
      · split at k
        · rename_i hlt
          rw [selL_low (l := e :: r) (lo := e.1) (K := K) (N := N) (I := I) (by unfold vmB; simp only [Bool.and_eq_true, decide_eq_true_eq]; exact ⟨⟨⟨Int.le_refl _, h2⟩, h3⟩, h4⟩) hlt, selL, if_pos rfl] at k
          exact absurd k.symm (okE_ne hK k3)
        · rename_i hlt
          by_cases he : e.1 = f.1
          · rw [selL, selL, if_pos rfl, if_pos he.symm] at k
            exact absurd (Prod.ext he k) hef
          · rw [selL_low (l := f :: q) (lo := f.1) (K := K) (N := N) (I := I) (by unfold vmB; simp only [Bool.and_eq_true, decide_eq_true_eq]; exact ⟨⟨⟨Int.le_refl _, k2⟩, k3⟩, k4⟩) (by omega), selL, if_pos rfl] at k
            exact absurd k (okE_ne hK h3)
      · cases k
        exact absurd rfl hef

/-! ### Steps of the tree -/

theorem runTr_k : ∀ {x : Tr} {v : V} {k : V → Option V}, runTr x some = some v → runTr x k = k v
  | .is w, v, k, h => by cases h; rfl
  | .need b x, v, k, h => by
    cases b with
    | false => cases h
    | true => exact runTr_k (x := x) h
  | .br b x y, v, k, h => by
    cases b with
    | false => exact runTr_k (x := y) h
    | true => exact runTr_k (x := x) h

theorem callS_of {S : Sp} {f : FuncId} {as : List V} {tr : Tr} {v : V} {k : V → Option V} (e : S f as = some tr) (h : runTr tr some = some v) : callS S f as k = k v := by
  unfold callS
  rw [e]
  exact runTr_k h

theorem need_of {b : Bool} {x : Tr} {v : V} (hb : b = true) (h : runTr x some = some v) : runTr (.need b x) some = some v := by
  subst hb
  exact h

theorem own_eq {K k N I u : Int} {s : List UInt8} {L : List Ent} {κ : V → Option V} (hL : L.length ≤ 5) : callS (spL K) 27 [val k N I u s (encM L)] κ = κ (val k N I u s (encM L)) := by
  cases L with
  | nil => rfl
  | cons e r =>
    refine callS_of (tr := .need (okM 5 (.isl (encC (e :: r)) (r.length + 1) none) && decide (1 ≤ r.length + 1)) (.is (val k N I u s (.isl (encC (e :: r)) (r.length + 1) none)))) rfl (need_of ?_ rfl)
    rw [show okM 5 (.isl (encC (e :: r)) (r.length + 1) none) = true from okM_enc (l := e :: r) hL, decide_eq_true (by omega)]
    rfl

theorem arr_eq {K' K N I : Int} (hK : K = 2 ∨ K = 3) {l : V} (hl : okI l = true) (hS : okS K N I = true) {κ : V → Option V} : arr (spL K') (.agg [.int .i64 K, .int .i64 N, .int .i64 I]) l κ = κ (val K N I 0 [] (encM (ofL K N I l))) := by
  unfold arr
  rcases hK with rfl | rfl
  · rw [callS_of (tr := .need (okI l && okS 2 N I) (.br (ofL 2 N I l).isEmpty (.is (val 2 N I 0 [] .nils)) (.is (val 2 N I 0 [] (.isl (encC (ofL 2 N I l)) (ofL 2 N I l).length none))))) rfl (need_of (by rw [hl, hS]; rfl) (encM_br _ _ _ _))]
    exact own_eq (ofL_len _ _ _ _)
  · rw [callS_of (tr := .need (okI l && okS 3 N I) (.br (ofL 3 N I l).isEmpty (.is (val 3 N I 0 [] .nils)) (.is (val 3 N I 0 [] (.isl (encC (ofL 3 N I l)) (ofL 3 N I l).length none))))) rfl (need_of (by rw [hl, hS]; rfl) (encM_br _ _ _ _))]
    exact own_eq (ofL_len _ _ _ _)

theorem elem_2 {K' N n : Int} (h1 : 1 ≤ N) (h2 : N ≤ 64) {κ : V → Option V} : arr (spL K') (.agg [.int .i64 (2 - 2), .int .i64 N, .int .i64 0]) (.isl [.int .i64 n] 1 none) κ = κ (val 0 N 0 (bits (pick (.isl [.int .i64 n] 1 none) 0 1073741824) N) [] .nils) := by
  unfold arr
  rw [callS_of (tr := .need (okI (.isl [.int .i64 n] 1 none) && decide (1 ≤ N) && decide (N ≤ 64)) (.is (val 0 N 0 (bits (pick (.isl [.int .i64 n] 1 none) 0 1073741824) N) [] .nils))) rfl (need_of (by rw [decide_eq_true h1, decide_eq_true h2]; rfl) rfl)]
  exact own_eq (L := []) (by decide)

theorem elem_3 {K' N n : Int} (h1 : 0 ≤ N) {κ : V → Option V} : arr (spL K') (.agg [.int .i64 (3 - 2), .int .i64 N, .int .i64 0]) (.isl [.int .i64 n] 1 none) κ = κ (val 1 N 0 0 (short (pick (.isl [.int .i64 n] 1 none) 0 1073741824) N) .nils) := by
  unfold arr
  rw [callS_of (tr := .need (okI (.isl [.int .i64 n] 1 none) && decide (0 ≤ N)) (.is (val 1 N 0 0 (short (pick (.isl [.int .i64 n] 1 none) 0 1073741824) N) .nils))) rfl (need_of (by rw [decide_eq_true h1]; rfl) rfl)]
  exact own_eq (L := []) (by decide)

/-- The row that Store returns. -/
def cmV (L P : List Ent) : V := if L.isEmpty then encM P else .isl (encC P) P.length none

theorem decM_cmV (L P : List Ent) : decM (cmV L P) = P := by
  unfold cmV
  split
  · exact decM_encM P
  · exact dec_enc P

theorem okM_cmV {n : Nat} (L : List Ent) {P : List Ent} (h : P.length ≤ n) : okM n (cmV L P) = true := by
  unfold cmV
  split
  · exact okM_encM h
  · exact okM_enc h

theorem store_eq {K' K N I x vk vN vu : Int} {vs : List UInt8} {L : List Ent} (hL : L.length ≤ 5) (hK : 2 ≤ K) (h : okV K N I 0 [] (encM L) = true) (hx : okV 0 I 0 x [] .nils = true) (hv : okV vk vN 0 vu vs .nils = true) (hf : fitsB K N vk vN = true) {κ : V → Option V} :
    opS (spL K') 25 ((val K N I 0 [] (encM L)).cells ++ ([.int .i64 0, .int .i64 I, .int .i64 0, .int .u64 x, .str [], .nils] ++ (val vk vN 0 vu vs .nils).cells)) 3 κ = κ (val K N I 0 [] (cmV L (putL x vu vs L))) := by
  unfold opS
  cases L with
  | nil =>
    rw [callS_of (v := .tup [val K N I 0 [] (encM (putL x vu vs [])), .bool true]) (tr := .need (okV K N I 0 [] .nils && okV 0 I 0 x [] .nils && okV vk vN 0 vu vs .nils && decide (2 ≤ K) && fitsB K N vk vN && decide ((0 : Int) = 0) && decide (I = I))
      (.br (putL x vu vs []).isEmpty (.is (.tup [val K N I 0 [] .nils, .bool true])) (.is (.tup [val K N I 0 [] (.isl (encC (putL x vu vs [])) (putL x vu vs []).length none), .bool true])))) rfl (need_of ?_ (encM_brt _ _ _ _ _))]
    · rfl
    · rw [show okV K N I 0 [] .nils = true from h, hx, hv, hf, decide_eq_true hK, decide_eq_true rfl, decide_eq_true rfl]
      rfl
  | cons e r =>
    rw [callS_of (v := .tup [val K N I 0 [] (.isl (encC (putL x vu vs (decC (encC (e :: r))))) (putL x vu vs (decC (encC (e :: r)))).length none), .bool true]) (tr := .need (okM 5 (.isl (encC (e :: r)) (r.length + 1) none) && okV K N I 0 [] (.isl (encC (e :: r)) (r.length + 1) none) && okV 0 I 0 x [] .nils && okV vk vN 0 vu vs .nils && decide (2 ≤ K) && fitsB K N vk vN && decide ((0 : Int) = 0) && decide (I = I))
      (.is (.tup [val K N I 0 [] (.isl (encC (putL x vu vs (decC (encC (e :: r))))) (putL x vu vs (decC (encC (e :: r)))).length none), .bool true]))) rfl (need_of ?_ rfl)]
    · rw [dec_enc]; rfl
    · rw [show okM 5 (.isl (encC (e :: r)) (r.length + 1) none) = true from okM_enc (l := e :: r) hL, show okV K N I 0 [] (.isl (encC (e :: r)) (r.length + 1) none) = true from h, hx, hv, hf, decide_eq_true hK, decide_eq_true rfl, decide_eq_true rfl]
      rfl

theorem select_eq {K' K N I y : Int} {m : V} (hK : 2 ≤ K) (h : okV K N I 0 [] m = true) (hy : okV 0 I 0 y [] .nils = true) {κ : V → Option V} :
    opS (spL K') 24 ((val K N I 0 [] m).cells ++ [.int .i64 0, .int .i64 I, .int .i64 0, .int .u64 y, .str [], .nils]) 2 κ = κ (val (K - 2) N 0 (selL y (decM m)).1 (selL y (decM m)).2 .nils) := by
  unfold opS
  rw [callS_of (v := .tup [val (K - 2) N 0 (selL y (decM m)).1 (selL y (decM m)).2 .nils, .bool true]) (tr := .need (okV K N I 0 [] m && okV 0 I 0 y [] .nils && decide (2 ≤ K) && decide ((0 : Int) = 0) && decide (I = I)) (.is (.tup [val (K - 2) N 0 (selL y (decM m)).1 (selL y (decM m)).2 .nils, .bool true]))) rfl (need_of ?_ rfl)]
  rw [h, hy, decide_eq_true hK, decide_eq_true rfl, decide_eq_true rfl]
  rfl

theorem diff_eq {K' K N I : Int} {m m' : V} (hK : 2 ≤ K) (o : okM 5 m = true) (o' : okM 5 m' = true) (h : okV K N I 0 [] m = true) (h' : okV K N I 0 [] m' = true) {κ : V → Option V} :
    opS (spL K') 26 ((val K N I 0 [] m).cells ++ (val K N I 0 [] m').cells) 2 κ = κ (val 0 I 0 (diffL (decM m) (decM m')) [] .nils) := by
  unfold opS
  rw [callS_of (v := .tup [val 0 I 0 (diffL (decM m) (decM m')) [] .nils, .bool true]) (tr := .need (okM 5 m && okM 5 m' && okV K N I 0 [] m && okV K N I 0 [] m' && decide (2 ≤ K) && decide (K = K) && decide (N = N) && decide (I = I)) (.is (.tup [val 0 I 0 (diffL (decM m) (decM m')) [] .nils, .bool true]))) rfl (need_of ?_ rfl)]
  rw [o, o', h, h', decide_eq_true hK, decide_eq_true rfl, decide_eq_true rfl, decide_eq_true rfl]
  rfl

theorem eq_eq {K' K N I : Int} {m m' : V} (hK : 2 ≤ K) (o : okM 5 m = true) (o' : okM 5 m' = true) (h : okV K N I 0 [] m = true) (h' : okV K N I 0 [] m' = true) {κ : V → Option V} :
    opS (spL K') 18 ((val K N I 0 [] m).cells ++ (val K N I 0 [] m').cells) 2 κ = κ (val 0 1 0 (b2i (cmpV (K, N, I, 0, [], m) (K, N, I, 0, [], m') == 0)) [] .nils) := by
  unfold opS
  rw [callS_of (v := .tup [val 0 1 0 (b2i (cmpV (K, N, I, 0, [], m) (K, N, I, 0, [], m') == 0)) [] .nils, .bool true]) (tr := .need (okM 5 m && okM 5 m' && okV K N I 0 [] m && okV K N I 0 [] m' && decide (2 ≤ K) && decide (K = K) && decide (N = N) && decide (I = I)) (.is (.tup [val 0 1 0 (b2i (cmpV (K, N, I, 0, [], m) (K, N, I, 0, [], m') == 0)) [] .nils, .bool true]))) rfl (need_of ?_ rfl)]
  rw [o, o', h, h', decide_eq_true hK, decide_eq_true rfl, decide_eq_true rfl, decide_eq_true rfl]
  rfl

theorem cmp_eq {K' k N I u k' N' I' u' : Int} {s s' : List UInt8} {m m' : V} (o : okM 5 m = true) (o' : okM 5 m' = true) {κ : Int → Option V} : cmpS30 (spL K') (val k N I u s m) (val k' N' I' u' s' m') κ = κ (cmpV (k, N, I, u, s, m) (k', N', I', u', s', m')) := by
  unfold cmpS30
  rw [callS_of (v := .int .i64 (cmpV (k, N, I, u, s, m) (k', N', I', u', s', m'))) (tr := .need (okM 5 m && okM 5 m') (.is (.int .i64 (cmpV (k, N, I, u, s, m) (k', N', I', u', s', m'))))) rfl (need_of (by rw [o, o']; rfl) rfl)]

theorem bits_eq {K' n b : Int} (h0 : 1 ≤ b) (h1 : b ≤ 64) {κ : V → Option V} : callS (spL K') 28 [.int .i64 n, .int .i64 b] κ = κ (.int .u64 (bits n b)) :=
  callS_of (tr := .need (decide (1 ≤ b) && decide (b ≤ 64)) (.is (.int .u64 (bits n b)))) rfl (need_of (by rw [decide_eq_true h0, decide_eq_true h1]; rfl) rfl)

theorem okV_idx {I y : Int} (h1 : 1 ≤ I) (h2 : I ≤ 64) (h3 : 0 ≤ y) (h4 : y < 2 ^ I.toNat) : okV 0 I 0 y [] .nils = true := by
  unfold okV okS
  simp only [if_true, decide_eq_true h1, decide_eq_true h2, decide_eq_true h3, decide_eq_true h4, decide_eq_true (rfl : (0 : Int) = 0), Bool.and_self]
  rfl

theorem okV_mk {K N I : Int} {m : V} (hK : K = 2 ∨ K = 3) (hS : okS K N I = true) (ho : okM 6 m = true) (hv : vmB K N I 0 (decM m) = true) : okV K N I 0 [] m = true := by
  unfold okV
  rw [hS, ho, hv, if_neg (by omega), if_neg (by omega), decide_eq_true (rfl : (0 : Int) = 0)]
  rfl

theorem okM_56 {m : V} (h : okM 5 m = true) : okM 6 m = true := by
  rcases okM_cases h with rfl | ⟨l, hl, rfl⟩
  · rfl
  · exact okM_enc (by omega)

/-- The second half holds. -/
theorem law2_true {K' K N I : Int} {L M : List Ent} (hK : K = 2 ∨ K = 3) (hS : okS K N I = true) (hL : L.length ≤ 5) (hM : M.length ≤ 5) (vL : vmB K N I 0 L = true) (vM : vmB K N I 0 M = true) :
    law2 (spL K') (val K N I 0 [] (encM L)) (val K N I 0 [] (encM M)) = some (.bool true) := by
  obtain ⟨hN, hi1, hi2⟩ := okS_arr hS (by omega) (by omega)
  have k2 : 2 ≤ K := by omega
  have oL := okM_encM hL
  have oM := okM_encM hM
  have wL := okV_mk (m := encM L) hK hS (okM_56 oL) (by rw [decM_encM]; exact vL)
  have wM := okV_mk (m := encM M) hK hS (okM_56 oM) (by rw [decM_encM]; exact vM)
  have hd := diffL_range (Int.le_refl 0) vL vM
  have wd := okV_idx hi1 (by omega) hd.1 hd.2
  unfold law2
  rw [eq_eq k2 oL oM wL wM, diff_eq k2 oL oM wL wM, decM_encM, decM_encM]
  rw [show (val 0 I 0 (diffL L M) [] .nils).cells = [.int .i64 0, .int .i64 I, .int .i64 0, .int .u64 (diffL L M), .str [], .nils] from rfl]
  rw [select_eq k2 wL wd, select_eq k2 wM wd, cmp_eq rfl rfl, cmp_eq oL oM, decM_encM, decM_encM]
  have e1 : (cmpV (K, N, I, 0, [], encM L) (K, N, I, 0, [], encM M) == 0) = decide (L = M) := by
    have := cmpV_eq (k := K) (N := N) (I := I) (k2 := K) (N2 := N) (I2 := I) (u := 0) (v := 0) (s := []) (w := []) oL oM
    rw [decM_encM, decM_encM] at this
    by_cases h : L = M
    · rw [decide_eq_true h, beq_iff_eq]
      exact this.2 ⟨rfl, rfl, rfl, rfl, rfl, h⟩
    · rw [decide_eq_false h, beq_eq_false_iff_ne]
      exact fun e => h (this.1 e).2.2.2.2.2
  have e3 : (cmpV (K - 2, N, 0, (selL (diffL L M) L).1, (selL (diffL L M) L).2, .nils) (K - 2, N, 0, (selL (diffL L M) M).1, (selL (diffL L M) M).2, .nils) == 0) = decide (L = M) := by
    have := cmpV_eq (k := K - 2) (N := N) (I := 0) (k2 := K - 2) (N2 := N) (I2 := 0) (u := (selL (diffL L M) L).1) (v := (selL (diffL L M) M).1) (s := (selL (diffL L M) L).2) (w := (selL (diffL L M) M).2) (m := .nils) (m' := .nils) rfl rfl
    have law := diff_law hK vL vM
    by_cases h : L = M
    · rw [decide_eq_true h, beq_iff_eq]
      have h2 := law.2 h
      exact this.2 ⟨rfl, rfl, rfl, by rw [h2], by rw [h2], rfl⟩
    · rw [decide_eq_false h, beq_eq_false_iff_ne]
      exact fun e => h (law.1 (Prod.ext (this.1 e).2.2.2.1 (this.1 e).2.2.2.2.1))
  rw [e1, e3]
  have e5 : (uOf (val 0 1 0 (b2i (decide (L = M))) [] .nils) == 1) = decide (L = M) := by
    show (b2i (decide (L = M)) == 1) = _
    cases decide (L = M) <;> rfl
  rw [e5]
  cases decide (L = M) <;> rfl

theorem law1_true {K' K N I i k n : Int} {L M : List Ent} (hK : K = 2 ∨ K = 3) (hS : okS K N I = true) (hL : L.length ≤ 5) (hM : M.length ≤ 5) (vL : vmB K N I 0 L = true) (vM : vmB K N I 0 M = true) :
    law1 (spL K') K N I i k n (val K N I 0 [] (encM L)) (val K N I 0 [] (encM M)) = some (.bool true) := by
  obtain ⟨hN, hi1, hi2⟩ := okS_arr hS (by omega) (by omega)
  have k2 : 2 ≤ K := by omega
  have oL := okM_encM hL
  have wL := okV_mk (m := encM L) hK hS (okM_56 oL) (by rw [decM_encM]; exact vL)
  have bi := bits_range (n := i) hi1 (show I ≤ 64 by omega)
  have bk := bits_range (n := k) hi1 (show I ≤ 64 by omega)
  have wi := okV_idx hi1 (by omega) bi.1 bi.2
  have wk := okV_idx hi1 (by omega) bk.1 bk.2
  -- behind the element
  have key : ∀ (vk vu : Int) (vs : List UInt8), vk = K - 2 → okV vk N 0 vu vs .nils = true → fitsB K N vk N = true → 0 ≤ vu → (¬ 0 < vu → ¬ 0 < (vs.length : Int) → vu = 0 ∧ vs = []) → (0 < vu ∨ 0 < (vs.length : Int) → okE K N vu vs = true) →
      (opS (spL K') 25 ((val K N I 0 [] (encM L)).cells ++ ([.int .i64 0, .int .i64 I, .int .i64 0, .int .u64 (bits i I), .str [], .nils] ++ (val vk N 0 vu vs .nils).cells)) 3 fun c =>
        opS (spL K') 24 (c.cells ++ [.int .i64 0, .int .i64 I, .int .i64 0, .int .u64 (bits i I), .str [], .nils]) 2 fun d =>
        opS (spL K') 24 (c.cells ++ [.int .i64 0, .int .i64 I, .int .i64 0, .int .u64 (bits k I), .str [], .nils]) 2 fun p =>
        opS (spL K') 24 ((val K N I 0 [] (encM L)).cells ++ [.int .i64 0, .int .i64 I, .int .i64 0, .int .u64 (bits k I), .str [], .nils]) 2 fun q =>
        cmpS30 (spL K') d (val vk N 0 vu vs .nils) fun e1 => bif (e1 == 0 && true) != true then some (.bool false) else
          bif (bits i I == bits k I && true) != true then
            cmpS30 (spL K') p q fun e2 => bif (e2 == 0 && true) != true then some (.bool false) else law2 (spL K') (val K N I 0 [] (encM L)) (val K N I 0 [] (encM M))
          else law2 (spL K') (val K N I 0 [] (encM L)) (val K N I 0 [] (encM M))) = some (.bool true) := by
    intro vk vu vs hvk hv hf hu hz hzE
    have vP : vmB K N I 0 (putL (bits i I) vu vs L) = true := putL_vm bi.2 hu hzE bi.1 vL
    have lP : (putL (bits i I) vu vs L).length ≤ 6 := by have := putL_len (bits i I) vu vs L; omega
    have wc : okV K N I 0 [] (cmV L (putL (bits i I) vu vs L)) = true := okV_mk hK hS (okM_cmV L lP) (by rw [decM_cmV]; exact vP)
    rw [store_eq hL k2 wL wi hv hf, select_eq k2 wc wi, select_eq k2 wc wk, select_eq k2 wL wk, cmp_eq rfl rfl, decM_cmV, decM_encM]
    have e1 : (cmpV (K - 2, N, 0, (selL (bits i I) (putL (bits i I) vu vs L)).1, (selL (bits i I) (putL (bits i I) vu vs L)).2, .nils) (vk, N, 0, vu, vs, .nils) == 0) = true := by
      rw [beq_iff_eq, sel_put_same (K := K) (N := N) (I := I) hz vL]
      exact (cmpV_eq (m := .nils) (m' := .nils) rfl rfl).2 ⟨hvk.symm, rfl, rfl, rfl, rfl, rfl⟩
    rw [e1]
    have hlaw := law2_true (K' := K') hK hS hL hM vL vM
    by_cases hik : bits i I = bits k I
    · rw [show (bits i I == bits k I) = true by simpa using hik]
      exact hlaw
    · rw [show (bits i I == bits k I) = false by simpa using hik]
      simp only [Bool.and_true, bne_t, Bool.not_true, Bool.not_false, cond_true, cond_false]
      rw [cmp_eq rfl rfl]
      have e2 : (cmpV (K - 2, N, 0, (selL (bits k I) (putL (bits i I) vu vs L)).1, (selL (bits k I) (putL (bits i I) vu vs L)).2, .nils) (K - 2, N, 0, (selL (bits k I) L).1, (selL (bits k I) L).2, .nils) == 0) = true := by
        rw [beq_iff_eq, sel_put_other hik]
        exact (cmpV_eq (m := .nils) (m' := .nils) rfl rfl).2 ⟨rfl, rfl, rfl, rfl, rfl, rfl⟩
      rw [e2]
      exact hlaw
  unfold law1
  rw [bits_eq hi1 (by omega), bits_eq hi1 (by omega)]
  rcases hK with rfl | rfl
  · have hn : 1 ≤ N ∧ N ≤ 64 := by omega
    have bu := bits_range (n := pick (.isl [.int .i64 n] 1 none) 0 1073741824) hn.1 hn.2
    rw [elem_2 hn.1 hn.2]
    refine key 0 _ [] rfl (okV_idx hn.1 hn.2 bu.1 bu.2) (by unfold fitsB; simp) bu.1 (fun a b => ⟨by omega, rfl⟩) (fun h => ?_)
    rw [okE_2]
    refine ⟨⟨?_, bu.2⟩, rfl⟩
    rcases h with h | h
    · exact h
    · simp at h
  · have hn : 0 ≤ N ∧ N ≤ 64 := by omega
    have hs := short_len (n := pick (.isl [.int .i64 n] 1 none) 0 1073741824) hn.1
    rw [elem_3 hn.1]
    refine key 1 0 _ rfl ?_ (by unfold fitsB; simp) (Int.le_refl 0) (fun a b => ⟨rfl, ?_⟩) (fun h => ?_)
    · unfold okV okS
      simp only [show ¬ (1 : Int) = 0 by decide, if_false, if_true, decide_eq_true hn.1, decide_eq_true hn.2, decide_eq_true hs, decide_eq_true (rfl : (0 : Int) = 0), Bool.and_self]
      rfl
    · rw [nil_len]; omega
    · rw [okE_3]
      refine ⟨⟨rfl, fun he => ?_⟩, hs⟩
      rw [he] at h
      simp at h

theorem lawT_true {K : Int} (hK : K = 2 ∨ K = 3) {l m : V} (hl : okI l = true) (hm : okI m = true) {sort i k n : Int} (hs : (around (sortN sort n) 1048576).tmod 4 = K) : lawT (spL K) l m sort i k n = some (.bool true) := by
  have hS := sortP_ok hK hs
  unfold lawT
  rw [callS_of (v := .agg [.int .i64 K, .int .i64 (sortP K (sortN sort n)).1, .int .i64 (sortP K (sortN sort n)).2]) (tr := .need (decide ((around (sortN sort n) 1048576).tmod 4 = K)) (.is (.agg [.int .i64 K, .int .i64 (sortP K (sortN sort n)).1, .int .i64 (sortP K (sortN sort n)).2]))) rfl (need_of (decide_eq_true hs) rfl)]
  simp only
  rw [arr_eq hK hl hS, arr_eq hK hm hS]
  have h1 := law1_true (K' := K) (i := i) (k := k) (n := n) hK hS (ofL_len K _ _ l) (ofL_len K _ _ l) (ofL_vm hS hK l) (ofL_vm hS hK l)
  have h2 := law1_true (K' := K) (i := i) (k := k) (n := n) hK hS (ofL_len K _ _ l) (ofL_len K _ _ m) (ofL_vm hS hK l) (ofL_vm hS hK m)
  cases (around n 5 == 0 && true) != false with
  | true => rw [cond_true, arr_eq hK hl hS]; exact h1
  | false => exact h2
end Ea
end Go.Proofs
