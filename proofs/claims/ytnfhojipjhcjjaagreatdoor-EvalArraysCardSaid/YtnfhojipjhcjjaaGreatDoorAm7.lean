/-
  ONE OPERATION OF THE MACHINE DOES WHAT THE EVALUATOR SAYS, FOURTH PART: '==' and '!='. Conditions: as each lemma names them.
-/
import Derived.Test.YtnfhojipjhcjjaaGreatDoorAm6
import Derived.Laws.StructEq
namespace Go.Am
set_option autoImplicit false
set_option linter.unusedVariables false
set_option linter.unusedSimpArgs false

theorem eqL_append {l1 l2 : List LK} : ∀ {x1 y1 x2 y2 : List V} {b : Bool}, x1.length = l1.length → y1.length = l1.length → eqL (l1 ++ l2) (x1 ++ x2) (y1 ++ y2) = some b →
    ∃ b1 b2, eqL l1 x1 y1 = some b1 ∧ eqL l2 x2 y2 = some b2 ∧ b = (b1 && b2) := by
  induction l1 with
  | nil =>
    intro x1 y1 x2 y2 b hx hy h
    have hx := List.length_eq_zero_iff.1 hx
    have hy := List.length_eq_zero_iff.1 hy
    subst hx hy
    exact ⟨true, b, rfl, h, by simp⟩
  | cons k l1 ih =>
    intro x1 y1 x2 y2 b hx hy h
    cases x1 with
    | nil => simp at hx
    | cons x x1 =>
      cases y1 with
      | nil => simp at hy
      | cons y y1 =>
        simp only [List.length_cons, Nat.add_right_cancel_iff] at hx hy
        simp only [List.cons_append] at h
        unfold eqL at h
        split at h <;> try (cases h; done)
        · rename_i e1 e2 e3; cases e1
        · rename_i e1 e2 e3
          injection e1 with e1 e1'; injection e2 with e2 e2'; injection e3 with e3 e3'
          subst e1 e2 e3 e1' e2' e3'
          split at h
          · rename_i hk
            rw [Option.map_eq_some_iff] at h
            obtain ⟨r, h1, rfl⟩ := h
            obtain ⟨b1, b2, h2, h3, rfl⟩ := ih hx hy h1
            exact ⟨_, b2, by simp only [eqL, if_pos hk, h2, Option.map_some]; rfl, h3, by rw [Bool.and_assoc]⟩
          · cases h
        · rename_i e1 e2 e3
          injection e1 with e1 e1'; injection e2 with e2 e2'; injection e3 with e3 e3'
          subst e1 e2 e3 e1' e2' e3'
          rw [Option.map_eq_some_iff] at h
          obtain ⟨r, h1, rfl⟩ := h
          obtain ⟨b1, b2, h2, h3, rfl⟩ := ih hx hy h1
          exact ⟨_, b2, by simp only [eqL, h2, Option.map_some]; rfl, h3, by rw [Bool.and_assoc]⟩
        · rename_i e1 e2 e3
          injection e1 with e1 e1'; injection e2 with e2 e2'; injection e3 with e3 e3'
          subst e1 e2 e3 e1' e2' e3'
          rw [Option.map_eq_some_iff] at h
          obtain ⟨r, h1, rfl⟩ := h
          obtain ⟨b1, b2, h2, h3, rfl⟩ := ih hx hy h1
          exact ⟨_, b2, by simp only [eqL, h2, Option.map_some]; rfl, h3, by rw [Bool.and_assoc]⟩

theorem eqL_len {l : List LK} : ∀ {xs ys : List V} {b : Bool}, eqL l xs ys = some b → xs.length = l.length ∧ ys.length = l.length := by
  induction l with
  | nil =>
    intro xs ys b h
    cases xs with
    | nil => cases ys with
      | nil => exact ⟨rfl, rfl⟩
      | cons y ys => simp [eqL] at h
    | cons x xs => simp [eqL] at h
  | cons k l ih =>
    intro xs ys b h
    unfold eqL at h
    split at h <;> try (cases h; done)
    · contradiction
    · rename_i e1
      injection e1 with e1 e1'; subst e1'
      split at h
      · rw [Option.map_eq_some_iff] at h; obtain ⟨r, h1, _⟩ := h; simp [ih h1]
      · cases h
    · rename_i e1
      injection e1 with e1 e1'; subst e1'
      rw [Option.map_eq_some_iff] at h; obtain ⟨r, h1, _⟩ := h; simp [ih h1]
    · rename_i e1
      injection e1 with e1 e1'; subst e1'
      rw [Option.map_eq_some_iff] at h; obtain ⟨r, h1, _⟩ := h; simp [ih h1]

theorem eqL_nil {xs ys : List V} {b : Bool} (h : eqL [] xs ys = some b) : xs = [] ∧ ys = [] ∧ b = true := by
  obtain ⟨h1, h2⟩ := eqL_len h
  have h1 := List.length_eq_zero_iff.1 h1
  have h2 := List.length_eq_zero_iff.1 h2
  subst h1 h2
  simp [eqL] at h
  exact ⟨rfl, rfl, h⟩

theorem eqL_int1 {k : IntKind} {xs ys : List V} {b : Bool} (h : eqL [.int k] xs ys = some b) : ∃ a c, xs = [.int k a] ∧ ys = [.int k c] ∧ b = (a == c) := by
  rcases xs with _ | ⟨x, xs⟩
  · simp [eqL] at h
  rcases ys with _ | ⟨y, ys⟩
  · cases x <;> simp [eqL] at h
  cases x <;> cases y <;> simp only [eqL] at h <;> try (cases h; done)
  split at h
  · rename_i hk
    rw [Option.map_eq_some_iff] at h
    obtain ⟨r, h1, rfl⟩ := h
    obtain ⟨rfl, rfl, rfl⟩ := eqL_nil h1
    obtain ⟨rfl, rfl⟩ := hk
    exact ⟨_, _, rfl, rfl, by simp⟩
  · cases h

theorem eqL_bool1 {xs ys : List V} {b : Bool} (h : eqL [.bool] xs ys = some b) : ∃ a c, xs = [.bool a] ∧ ys = [.bool c] ∧ b = (a == c) := by
  rcases xs with _ | ⟨x, xs⟩
  · simp [eqL] at h
  rcases ys with _ | ⟨y, ys⟩
  · cases x <;> simp [eqL] at h
  cases x <;> cases y <;> simp only [eqL] at h <;> try (cases h; done)
  rw [Option.map_eq_some_iff] at h
  obtain ⟨r, h1, rfl⟩ := h
  obtain ⟨rfl, rfl, rfl⟩ := eqL_nil h1
  exact ⟨_, _, rfl, rfl, by simp⟩

theorem eqL_str1 {xs ys : List V} {b : Bool} (h : eqL [.str] xs ys = some b) : ∃ a c, xs = [.str a] ∧ ys = [.str c] ∧ b = (a == c) := by
  rcases xs with _ | ⟨x, xs⟩
  · simp [eqL] at h
  rcases ys with _ | ⟨y, ys⟩
  · cases x <;> simp [eqL] at h
  cases x <;> cases y <;> simp only [eqL] at h <;> try (cases h; done)
  rw [Option.map_eq_some_iff] at h
  obtain ⟨r, h1, rfl⟩ := h
  obtain ⟨rfl, rfl, rfl⟩ := eqL_nil h1
  exact ⟨_, _, rfl, rfl, by simp⟩

section
variable {P : Program} {s : St} {w : World}

/-- What is asked of '==' at a type. -/
def EqAt (P : Program) (s : St) (d : Nat) (ty : TypeId) (l : List LK) : Prop :=
  ∀ (n : Nat) (w : World) (xs ys : List V) (b : Bool), d ≤ n → eqL l xs ys = some b →
    (isAggB P ty = some true → ∀ (a1 a2 : Array Value), xs.length = a1.size → ys.length = a2.size → (∀ (i : Nat) (x : V) (y : Value), xs[i]? = some x → a1[i]? = some y → s.vr x y) →
      (∀ (i : Nat) (x : V) (y : Value), ys[i]? = some x → a2[i]? = some y → s.vr x y) → (Op.equalIn n ty (.agg a1) (.agg a2)).run P w = .ok b w) ∧
    (isAggB P ty = some false → ∃ x y, xs = [x] ∧ ys = [y] ∧ ∀ c e, s.vr x c → s.vr y e → (Op.equalIn n ty c e).run P w = .ok b w)

theorem beq_bytes (a b : List UInt8) : ((ByteArray.mk a.toArray) == (ByteArray.mk b.toArray)) = (a == b) := by
  rw [Go.beq_toListBytes, Go.ByteArray.toList_mk, Go.ByteArray.toList_mk]

/-- A part of an aggregate, as '==' takes it. -/
theorem part_at {ty : TypeId} {sz off : Nat} {arr : Array Value} {ag : Bool} (hag : isAggB P ty = some ag) (hsz : sizeB P ty = some sz) (hle : off + sz ≤ arr.size) (h1 : ag = false → sz = 1) :
    (part ty arr off).run P w = .ok (if ag then .agg (arr.extract off (off + sz)) else (arr[off]?).getD undef) w := by
  cases ag with
  | true => simp [part, r_isAgg hag, r_size hsz]
  | false =>
    have := h1 rfl; subst this
    have hlt : off < arr.size := by omega
    simp [part, r_isAgg hag, Array.getElem?_eq_getElem hlt]

theorem fields_eq (d n : Nat) (w : World) (ih : ∀ ty l, leafs P d ty = some l → EqAt P s d ty l) (hagg : ∀ ty l, leafs P d ty = some l → (isAggB P ty).isSome ∧ (isAggB P ty = some false → l.length = 1)) (hn : d ≤ n) (xs ys : List V) (a1 a2 : Array Value)
    (hx1 : xs.length = a1.size) (hy1 : ys.length = a2.size) (hx : ∀ (i : Nat) (x : V) (y : Value), xs[i]? = some x → a1[i]? = some y → s.vr x y) (hy : ∀ (i : Nat) (x : V) (y : Value), ys[i]? = some x → a2[i]? = some y → s.vr x y) :
    ∀ (fs : List Field) (acc l : List LK) (b : Bool),
      (fs.foldl (fun acc f => match acc, leafs P d f.type, sizeB P f.type with
        | some l, some m, some sz => if f.name ≠ "_" ∧ f.offset = l.length ∧ m.length = sz then some (l ++ m) else none
        | _, _, _ => none) (some acc)) = some l →
      eqL (l.drop acc.length) (xs.drop acc.length) (ys.drop acc.length) = some b → acc.length + (l.length - acc.length) = l.length → xs.length = l.length → ys.length = l.length →
      (Op.eqFields n a1 a2 fs).run P w = .ok b w := by
  have hnone : ∀ (fs : List Field), (fs.foldl (fun acc f => match acc, leafs P d f.type, sizeB P f.type with
        | some l, some m, some sz => if f.name ≠ "_" ∧ f.offset = l.length ∧ m.length = sz then some (l ++ m) else none
        | _, _, _ => none) (none : Option (List LK))) = none := by
    intro fs; induction fs with
    | nil => rfl
    | cons f fs ih => simp only [List.foldl_cons]; exact ih
  have hpre : ∀ (fs : List Field) (acc l : List LK), (fs.foldl (fun acc f => match acc, leafs P d f.type, sizeB P f.type with
        | some l, some m, some sz => if f.name ≠ "_" ∧ f.offset = l.length ∧ m.length = sz then some (l ++ m) else none
        | _, _, _ => none) (some acc)) = some l → ∃ r, l = acc ++ r := by
    intro fs; induction fs with
    | nil => intro acc l h; simp at h; subst h; exact ⟨[], by simp⟩
    | cons f fs ih =>
      intro acc l h
      simp only [List.foldl_cons] at h
      split at h
      · rename_i a m sz e1 e2 e3
        injection e1 with e1; subst e1
        split at h
        · obtain ⟨r, rfl⟩ := ih _ _ h; exact ⟨m ++ r, by simp⟩
        · rw [hnone] at h; cases h
      · rw [hnone] at h; cases h
  intro fs
  induction fs with
  | nil =>
    intro acc l b h he _ hxl hyl
    simp at h; subst h
    rw [List.drop_length, show List.drop acc.length xs = [] from by rw [← hxl]; exact List.drop_length, show List.drop acc.length ys = [] from by rw [← hyl]; exact List.drop_length] at he
    simp [eqL] at he; subst he
    simp [Op.eqFields]
  | cons f fs ihf =>
    intro acc l b h he hl hxl hyl
    simp only [List.foldl_cons] at h
    split at h
    · rename_i a m sz e1 e2 e3
      injection e1 with e1; subst e1
      split at h
      · rename_i hcond
        obtain ⟨hname, hoff, hm⟩ := hcond
        obtain ⟨r, hr⟩ := hpre _ _ _ h
        have hlen : l.length = acc.length + m.length + r.length := by rw [hr]; simp [Nat.add_assoc]
        have hd : l.drop acc.length = m ++ r := by rw [hr]; simp
        have hxs : xs.drop acc.length = (xs.drop acc.length).take m.length ++ xs.drop (acc.length + m.length) := by rw [← List.drop_drop]; exact (List.take_append_drop _ _).symm
        have hys : ys.drop acc.length = (ys.drop acc.length).take m.length ++ ys.drop (acc.length + m.length) := by rw [← List.drop_drop]; exact (List.take_append_drop _ _).symm
        rw [hd, hxs, hys] at he
        obtain ⟨b1, b2, h1, h2, rfl⟩ := eqL_append (by simp; omega) (by simp; omega) he
        have hrest := ihf (acc ++ m) l b2 h (by
          have : l.drop (acc ++ m).length = r := by rw [hr]; simp [List.drop_append]
          rw [this, List.length_append]; exact h2) (by rw [List.length_append]; omega) hxl hyl
        have hE := ih f.type m e2 n w _ _ b1 hn h1
        obtain ⟨hags, hag1⟩ := hagg f.type m e2
        obtain ⟨ag, hag⟩ := Option.isSome_iff_exists.1 hags
        have hp1 := part_at (P := P) (w := w) (off := f.offset) (arr := a1) hag e3 (by omega) (fun e => by subst e; rw [← hm]; exact hag1 hag)
        have hp2 := part_at (P := P) (w := w) (off := f.offset) (arr := a2) hag e3 (by omega) (fun e => by subst e; rw [← hm]; exact hag1 hag)
        rw [Op.eqFields, if_pos hname]
        simp only [Sem.run_bind, hp1, hp2, Result.andThen_ok]
        have hres : (Op.equalIn n f.type (if ag = true then .agg (a1.extract f.offset (f.offset + sz)) else (a1[f.offset]?).getD undef) (if ag = true then .agg (a2.extract f.offset (f.offset + sz)) else (a2[f.offset]?).getD undef)).run P w = .ok b1 w := by
          cases ag with
          | true =>
            simp only [if_true]
            refine hE.1 hag _ _ (by simp; omega) (by simp; omega) (fun i x y c1 c2 => ?_) (fun i x y c1 c2 => ?_)
            · rw [List.getElem?_take] at c1; rw [Array.getElem?_extract] at c2
              split at c1
              · split at c2
                · exact hx (f.offset + i) x y (by rw [hoff]; simpa using c1) c2
                · cases c2
              · cases c1
            · rw [List.getElem?_take] at c1; rw [Array.getElem?_extract] at c2
              split at c1
              · split at c2
                · exact hy (f.offset + i) x y (by rw [hoff]; simpa using c1) c2
                · cases c2
              · cases c1
          | false =>
            have hm1 := hag1 hag
            obtain ⟨x, y, q1, q2, q3⟩ := hE.2 hag
            have hlt1 : f.offset < a1.size := by omega
            have hlt2 : f.offset < a2.size := by omega
            simp only [Bool.false_eq_true, if_false, Array.getElem?_eq_getElem hlt1, Array.getElem?_eq_getElem hlt2, Option.getD_some]
            refine q3 _ _ (hx f.offset x _ ?_ (Array.getElem?_eq_getElem hlt1)) (hy f.offset y _ ?_ (Array.getElem?_eq_getElem hlt2))
            · have : ((xs.drop acc.length).take m.length)[0]? = some x := by rw [q1]; rfl
              rw [List.getElem?_take] at this
              split at this
              · rw [hoff]; simpa using this
              · cases this
            · have : ((ys.drop acc.length).take m.length)[0]? = some y := by rw [q2]; rfl
              rw [List.getElem?_take] at this
              split at this
              · rw [hoff]; simpa using this
              · cases this
        rw [hres]
        cases b1
        · simp
        · simpa using hrest
      · rw [hnone] at h; cases h
    · rw [hnone] at h; cases h


def eqElems (d : Nat) (e : TypeId) (n : Nat) (xs ys : Array Value) : List Nat → Sem Bool
  | [] => pure true
  | i :: r => do
    let a ← part e xs (i * n)
    let b ← part e ys (i * n)
    let q ← Op.equalIn d e a b
    if (!q) = true then pure false else eqElems d e n xs ys r

theorem run_equalIn_array (d : Nat) (t : TypeId) (len : Nat) (e : TypeId) (n : Nat) (xs ys : Array Value) (ht : P.underlying t = some (.array len e)) (hs : sizeB P e = some n) :
    (Op.equalIn (d + 1) t (.agg xs) (.agg ys)).run P w = (eqElems d e n xs ys (List.range' 0 len)).run P w := by
  simp only [Op.equalIn, Sem.run_bind, r_und ht, Result.andThen_ok, r_size hs]
  rw [Std.Legacy.Range.forIn_eq_forIn_range']
  have hsz : (⟨0, len, 1, by decide⟩ : Std.Legacy.Range).size = len := by simp [Std.Legacy.Range.size]
  simp only [hsz]
  generalize List.range' 0 len 1 = is
  induction is generalizing w with
  | nil => simp [eqElems]
  | cons i is ih =>
    simp only [List.forIn_cons, eqElems, Sem.run_bind, Sem.run_ite]
    generalize (part e xs (i * n)).run P w = r1
    cases r1 with
    | ok a w1 =>
      simp only [Result.andThen_ok]
      generalize (part e ys (i * n)).run P w1 = r2
      cases r2 with
      | ok b w2 =>
        simp only [Result.andThen_ok]
        generalize (Op.equalIn d e a b).run P w2 = r3
        cases r3 with
        | ok r w3 =>
          cases r
          · simp only [Result.andThen_ok, Bool.not_false, if_true, Sem.run_pure]
          · simp only [Result.andThen_ok, Bool.not_true, Bool.false_eq_true, if_false, Sem.run_pure]
            exact ih
        | halt x w3 => simp [Result.andThen]
      | halt x w2 => simp [Result.andThen]
    | halt x w1 => simp [Result.andThen]

theorem elems_eq (d n sz : Nat) (w : World) (e : TypeId) (m : List LK) (ih : EqAt P s d e m) (ag : Bool) (hag : isAggB P e = some ag) (hag1 : ag = false → m.length = 1) (hsz : sizeB P e = some sz) (hm : m.length = sz) (hn : d ≤ n) (a1 a2 : Array Value) :
    ∀ (k i : Nat) (xs ys : List V) (b : Bool), eqL (List.replicate k m).flatten xs ys = some b → i * sz + k * sz ≤ a1.size → i * sz + k * sz ≤ a2.size →
      (∀ (j : Nat) (x : V) (y : Value), xs[j]? = some x → a1[i * sz + j]? = some y → s.vr x y) → (∀ (j : Nat) (x : V) (y : Value), ys[j]? = some x → a2[i * sz + j]? = some y → s.vr x y) →
      (eqElems n e sz a1 a2 (List.range' i k)).run P w = .ok b w := by
  intro k
  induction k with
  | zero =>
    intro i xs ys b he _ _ _ _
    obtain ⟨h1, h2⟩ := eqL_len he
    simp at h1 h2; subst h1 h2
    simp [eqL] at he; subst he
    simp [eqElems]
  | succ k ihk =>
    intro i xs ys b he hs1 hs2 hx hy
    obtain ⟨hl1, hl2⟩ := eqL_len he
    simp only [List.replicate_succ, List.flatten_cons] at he hl1 hl2
    have hlen : ((List.replicate k m).flatten).length = k * sz := by simp [hm]
    rw [List.length_append, hlen, hm] at hl1 hl2
    have hxs : xs = xs.take m.length ++ xs.drop m.length := (List.take_append_drop _ _).symm
    have hys : ys = ys.take m.length ++ ys.drop m.length := (List.take_append_drop _ _).symm
    rw [hxs, hys] at he
    obtain ⟨b1, b2, h1, h2, rfl⟩ := eqL_append (by simp; omega) (by simp; omega) he
    have hmul : (i + 1) * sz = i * sz + sz := by rw [Nat.add_mul, Nat.one_mul]
    have hmul2 : (k + 1) * sz = k * sz + sz := by rw [Nat.add_mul, Nat.one_mul]
    have hrest := ihk (i + 1) _ _ b2 h2 (by omega) (by omega) (fun j x y c1 c2 => hx (m.length + j) x y (by simpa using c1) (by rw [hm, ← Nat.add_assoc, ← hmul]; exact c2))
      (fun j x y c1 c2 => hy (m.length + j) x y (by simpa using c1) (by rw [hm, ← Nat.add_assoc, ← hmul]; exact c2))
    have hE := ih n w _ _ b1 hn h1
    have hp1 := part_at (P := P) (w := w) (off := i * sz) (arr := a1) hag hsz (by omega) (fun e => by rw [← hm]; exact hag1 e)
    have hp2 := part_at (P := P) (w := w) (off := i * sz) (arr := a2) hag hsz (by omega) (fun e => by rw [← hm]; exact hag1 e)
    rw [List.range'_succ, eqElems]
    simp only [Sem.run_bind, hp1, hp2, Result.andThen_ok]
    have hres : (Op.equalIn n e (if ag = true then .agg (a1.extract (i * sz) (i * sz + sz)) else (a1[i * sz]?).getD undef) (if ag = true then .agg (a2.extract (i * sz) (i * sz + sz)) else (a2[i * sz]?).getD undef)).run P w = .ok b1 w := by
      cases ag with
      | true =>
        simp only [if_true]
        refine hE.1 hag _ _ (by simp; omega) (by simp; omega) (fun j x y c1 c2 => ?_) (fun j x y c1 c2 => ?_)
        · rw [List.getElem?_take] at c1; rw [Array.getElem?_extract] at c2
          split at c1
          · split at c2
            · exact hx j x y c1 c2
            · cases c2
          · cases c1
        · rw [List.getElem?_take] at c1; rw [Array.getElem?_extract] at c2
          split at c1
          · split at c2
            · exact hy j x y c1 c2
            · cases c2
          · cases c1
      | false =>
        have hm1 := hag1 rfl
        obtain ⟨x, y, q1, q2, q3⟩ := hE.2 hag
        have hlt1 : i * sz < a1.size := by omega
        have hlt2 : i * sz < a2.size := by omega
        simp only [Bool.false_eq_true, if_false, Array.getElem?_eq_getElem hlt1, Array.getElem?_eq_getElem hlt2, Option.getD_some]
        refine q3 _ _ (hx 0 x _ ?_ (Array.getElem?_eq_getElem hlt1)) (hy 0 y _ ?_ (Array.getElem?_eq_getElem hlt2))
        · have : (xs.take m.length)[0]? = some x := by rw [q1]; rfl
          rw [List.getElem?_take] at this
          split at this
          · exact this
          · cases this
        · have : (ys.take m.length)[0]? = some y := by rw [q2]; rfl
          rw [List.getElem?_take] at this
          split at this
          · exact this
          · cases this
    rw [hres]
    cases b1
    · simp
    · simpa using hrest

theorem leafs_agg (d : Nat) : ∀ ty l, leafs P d ty = some l → (isAggB P ty).isSome ∧ (isAggB P ty = some false → l.length = 1) := by
  intro ty l h
  cases d with
  | zero => simp [leafs] at h
  | succ d =>
    unfold leafs at h
    unfold isAggB
    split at h
    · rename_i hu; injection h with h; subst h; rw [hu]; simp
    · rename_i hu; injection h with h; subst h; rw [hu]; simp
    · rename_i hu; injection h with h; subst h; rw [hu]; simp
    · rename_i hu; rw [hu]; simp
    · rename_i hu; rw [hu]; simp
    · cases h

theorem leafs_ok (d : Nat) : ∀ ty l, leafs P d ty = some l → EqAt P s d ty l := by
  induction d with
  | zero => intro ty l h; simp [leafs] at h
  | succ d ih =>
    intro ty l h n w xs ys b hn he
    obtain ⟨n, rfl⟩ : ∃ m, n = m + 1 := ⟨n - 1, by omega⟩
    have hagd := leafs_agg (P := P) d
    unfold leafs at h
    split at h
    · rename_i k hu
      injection h with h; subst h
      refine ⟨fun hc => by simp [isAggB, hu] at hc, fun _ => ?_⟩
      obtain ⟨a, c, rfl, rfl, rfl⟩ := eqL_int1 he
      exact ⟨_, _, rfl, rfl, fun c e hc he => by rw [vr_int hc, vr_int he]; simp [Op.equalIn, r_und hu]⟩
    · rename_i hu
      injection h with h; subst h
      refine ⟨fun hc => by simp [isAggB, hu] at hc, fun _ => ?_⟩
      obtain ⟨a, c, rfl, rfl, rfl⟩ := eqL_bool1 he
      exact ⟨_, _, rfl, rfl, fun c e hc he => by rw [vr_bool hc, vr_bool he]; simp [Op.equalIn, r_und hu]⟩
    · rename_i hu
      injection h with h; subst h
      refine ⟨fun hc => by simp [isAggB, hu] at hc, fun _ => ?_⟩
      obtain ⟨a, c, rfl, rfl, rfl⟩ := eqL_str1 he
      exact ⟨_, _, rfl, rfl, fun c e hc he => by rw [vr_str' hc, vr_str' he]; simp [Op.equalIn, r_und hu, beq_bytes]⟩
    · rename_i fs hu
      refine ⟨fun _ a1 a2 hx1 hy1 hx hy => ?_, fun hc => by simp [isAggB, hu] at hc⟩
      split at h
      · cases h
      · rename_i hst
        have hf : P.fieldsOf ty = fs := by simp [Program.fieldsOf, hu]
        rw [Go.run_equalIn_struct (P := P) w n ty a1 a2 (by rw [hf]; exact hu) (by simpa using hst), hf]
        obtain ⟨hl1, hl2⟩ := eqL_len he
        exact fields_eq d n w ih hagd (by omega) xs ys a1 a2 hx1 hy1 hx hy fs.toList [] l b h (by simpa using he) (by simp) hl1 hl2
    · rename_i len e hu
      refine ⟨fun _ a1 a2 hx1 hy1 hx hy => ?_, fun hc => by simp [isAggB, hu] at hc⟩
      split at h
      · rename_i m sz h1 h2
        split at h
        · rename_i hm
          injection h with h; subst h
          obtain ⟨hl1, hl2⟩ := eqL_len he
          have hlen : ((List.replicate len m).flatten).length = len * sz := by simp [hm]
          rw [hlen] at hl1 hl2
          rw [run_equalIn_array n ty len e sz a1 a2 hu h2]
          obtain ⟨hags, hag1⟩ := hagd e m h1
          obtain ⟨ag, hag⟩ := Option.isSome_iff_exists.1 hags
          exact elems_eq d n sz w e m (ih e m h1) ag hag (fun e => by subst e; exact hag1 hag) h2 hm (by omega) a1 a2 len 0 xs ys b he (by omega) (by omega) (fun j x y c1 c2 => hx j x y c1 (by simpa using c2)) (fun j x y c1 c2 => hy j x y c1 (by simpa using c2))
        · cases h
      · cases h
    · cases h



inductive EqCase (P : Program) (ty : TypeId) : V → V → Bool → Prop
  | agg (l : List LK) (xs ys : List V) (b : Bool) (hl : leafs P 20 ty = some l) (ha : isAggB P ty = some true) (hg : P.eqGuardType P.depth ty = false) (h : eqL l xs ys = some b) : EqCase P ty (.agg xs) (.agg ys) b
  | int (k : IntKind) (i j : Int) (h : P.underlying ty = some (.int k)) : EqCase P ty (.int k i) (.int k j) (i == j)
  | bool (i j : Bool) (h : P.underlying ty = some .bool) : EqCase P ty (.bool i) (.bool j) (i == j)
  | str (i j : List UInt8) (h : P.underlying ty = some .string) : EqCase P ty (.str i) (.str j) (i == j)
  | fn1 (ps rs : Array TypeId) (va : Bool) (h : P.underlying ty = some (.func ps rs va)) (f : FuncId) (cs : List V) : EqCase P ty (.fn f cs) .nilf false
  | fn2 (ps rs : Array TypeId) (va : Bool) (h : P.underlying ty = some (.func ps rs va)) (f : FuncId) (cs : List V) : EqCase P ty .nilf (.fn f cs) false
  | fn0 (ps rs : Array TypeId) (va : Bool) (h : P.underlying ty = some (.func ps rs va)) : EqCase P ty .nilf .nilf true
  | sl1 (e : TypeId) (h : P.underlying ty = some (.slice e)) (x : V) (hx : (∃ cs len ex, x = .isl cs len ex) ∨ ∃ id off len sz lo ex, x = .osl id off len sz lo ex) : EqCase P ty x .nils false
  | sl2 (e : TypeId) (h : P.underlying ty = some (.slice e)) (x : V) (hx : (∃ cs len ex, x = .isl cs len ex) ∨ ∃ id off len sz lo ex, x = .osl id off len sz lo ex) : EqCase P ty .nils x false
  | sl0 (e : TypeId) (h : P.underlying ty = some (.slice e)) : EqCase P ty .nils .nils true

theorem slice_some {s : St} {x : V} {c : Value} (h : s.vr x c) (hx : (∃ cs len ex, x = .isl cs len ex) ∨ ∃ id off len sz lo ex, x = .osl id off len sz lo ex) : ∃ (a : Addr) (n m : Nat), c = .slice (some a) n m := by
  rcases hx with ⟨cs, len, ex, rfl⟩ | ⟨id, off, len, sz, lo, ex, rfl⟩
  · rcases vr_isl h with ⟨_, _, a, cc, rfl, _⟩ | ⟨g, off, arr, e, fr, cc, rfl, _⟩ <;> exact ⟨_, _, _, rfl⟩
  · rcases vr_osl h with ⟨l, cc, _, rfl, _⟩ | ⟨_, a, cc, rfl, _⟩ <;> exact ⟨_, _, _, rfl⟩

theorem eqV_sl {x y : V} {b : Bool} (hb : eqV .nls x y = some b) : (((∃ cs len ex, x = .isl cs len ex) ∨ ∃ id off len sz lo ex, x = .osl id off len sz lo ex) ∧ y = .nils ∧ b = false) ∨ (((∃ cs len ex, y = .isl cs len ex) ∨ ∃ id off len sz lo ex, y = .osl id off len sz lo ex) ∧ x = .nils ∧ b = false) ∨ (x = .nils ∧ y = .nils ∧ b = true) := by
  cases x <;> cases y <;> simp only [eqV, Option.some.injEq] at hb <;> first
    | (cases hb; done)
    | exact .inl ⟨.inl ⟨_, _, _, rfl⟩, rfl, hb.symm⟩
    | exact .inl ⟨.inr ⟨_, _, _, _, _, _, rfl⟩, rfl, hb.symm⟩
    | exact .inr (.inl ⟨.inl ⟨_, _, _, rfl⟩, rfl, hb.symm⟩)
    | exact .inr (.inl ⟨.inr ⟨_, _, _, _, _, _, rfl⟩, rfl, hb.symm⟩)
    | exact .inr (.inr ⟨rfl, rfl, hb.symm⟩)

theorem leafs_one {d : Nat} {ty : TypeId} {l : List LK} (h : leafs P d ty = some l) (ha : isAggB P ty = some false) :
    (∃ k, P.underlying ty = some (.int k) ∧ l = [.int k]) ∨ (P.underlying ty = some .bool ∧ l = [.bool]) ∨ (P.underlying ty = some .string ∧ l = [.str]) := by
  cases d with
  | zero => simp [leafs] at h
  | succ d =>
    unfold leafs at h
    split at h
    · rename_i k hu; injection h with h; exact .inl ⟨k, hu, h.symm⟩
    · rename_i hu; injection h with h; exact .inr (.inl ⟨hu, h.symm⟩)
    · rename_i hu; injection h with h; exact .inr (.inr ⟨hu, h.symm⟩)
    · rename_i hu; simp [isAggB, hu] at ha
    · rename_i hu; simp [isAggB, hu] at ha
    · cases h

theorem eqV_fn {x y : V} {b : Bool} (hb : eqV .nl x y = some b) : (∃ f cs, x = .fn f cs ∧ y = .nilf ∧ b = false) ∨ (∃ f cs, x = .nilf ∧ y = .fn f cs ∧ b = false) ∨ (x = .nilf ∧ y = .nilf ∧ b = true) := by
  cases x <;> cases y <;> simp only [eqV, Option.some.injEq] at hb <;> first
    | (cases hb; done)
    | exact .inl ⟨_, _, rfl, rfl, hb.symm⟩
    | exact .inr (.inl ⟨_, _, rfl, rfl, hb.symm⟩)
    | exact .inr (.inr ⟨rfl, rfl, hb.symm⟩)

theorem eqV_agg {l : List LK} {x y : V} {b : Bool} (hb : eqV (.sc l true) x y = some b) : ∃ xs ys, x = .agg xs ∧ y = .agg ys ∧ eqL l xs ys = some b := by
  cases x <;> cases y <;> simp only [eqV] at hb <;> first
    | (cases hb; done)
    | exact ⟨_, _, rfl, rfl, hb⟩

theorem eqV_one {l : List LK} {x y : V} {b : Bool} (hb : eqV (.sc l false) x y = some b) : eqL l [x] [y] = some b := by
  have e : eqV (.sc l false) x y = if x.one && y.one then eqL l [x] [y] else none := by cases x <;> cases y <;> rfl
  rw [e] at hb
  split at hb
  · exact hb
  · cases hb

theorem equal_run {ty : TypeId} {c d : Value} {b : Bool} (h : ∀ n, (Op.equalIn (n + 1) ty c d).run P w = .ok b w) : (Op.equal ty c d).run P w = .ok b w := h 9999

theorem eql_run {ty : TypeId} {c d : Value} {b : Bool} (h : (Op.equal ty c d).run P w = .ok b w) (e : binOp .eql ty c d = (do pure (.bool (← Op.equal ty c d)))) : (binOp .eql ty c d).run P w = .ok (.bool b) w := by
  rw [e]; simp only [Sem.run_bind, h, Result.andThen_ok, Sem.run_pure]

theorem neq_run {ty : TypeId} {c d : Value} {b : Bool} (h : (Op.equal ty c d).run P w = .ok b w) (e : binOp .neq ty c d = (do pure (.bool (!(← Op.equal ty c d))))) : (binOp .neq ty c d).run P w = .ok (.bool !b) w := by
  rw [e]; simp only [Sem.run_bind, h, Result.andThen_ok, Sem.run_pure]

theorem eqCase {e : EqT} {ty : TypeId} {x y : V} {b : Bool} (hq : eqB P ty = some e) (hb : eqV e x y = some b) : EqCase P ty x y b := by
  unfold eqB at hq
  split at hq
  · rename_i ps rs va hu
    injection hq with hq; subst hq
    rcases eqV_fn hb with ⟨f, cs, rfl, rfl, rfl⟩ | ⟨f, cs, rfl, rfl, rfl⟩ | ⟨rfl, rfl, rfl⟩
    · exact .fn1 _ _ _ hu f cs
    · exact .fn2 _ _ _ hu f cs
    · exact .fn0 _ _ _ hu
  · rename_i e hu
    injection hq with hq; subst hq
    rcases eqV_sl hb with ⟨h, rfl, rfl⟩ | ⟨h, rfl, rfl⟩ | ⟨rfl, rfl, rfl⟩
    · exact .sl1 e hu _ h
    · exact .sl2 e hu _ h
    · exact .sl0 e hu
  · split at hq
    · rename_i l a hl ha
      split at hq
      · cases hq
      · rename_i hng
        injection hq with hq; subst hq
        cases a with
        | true =>
          obtain ⟨xs, ys, rfl, rfl, h⟩ := eqV_agg hb
          exact .agg l xs ys b hl ha (by simpa using hng) h
        | false =>
          have h := eqV_one hb
          rcases leafs_one hl ha with ⟨k, hu, rfl⟩ | ⟨hu, rfl⟩ | ⟨hu, rfl⟩
          · obtain ⟨p, q, e1, e2, rfl⟩ := eqL_int1 h
            injection e1 with e1; injection e2 with e2; subst e1 e2
            exact .int k _ _ hu
          · obtain ⟨p, q, e1, e2, rfl⟩ := eqL_bool1 h
            injection e1 with e1; injection e2 with e2; subst e1 e2
            exact .bool _ _ hu
          · obtain ⟨p, q, e1, e2, rfl⟩ := eqL_str1 h
            injection e1 with e1; injection e2 with e2; subst e1 e2
            exact .str _ _ hu
    · cases hq

theorem eq_run {ty : TypeId} {x y : V} {c d : Value} {b : Bool} (hx : s.vr x c) (hy : s.vr y d) (hb : EqCase P ty x y b) (X Y : Operand) :
    ((do eqGuard .eql ty X Y c d; binOp .eql ty c d : Sem Value).run P w = .ok (.bool b) w) ∧ ((do eqGuard .neq ty X Y c d; binOp .neq ty c d : Sem Value).run P w = .ok (.bool !b) w) := by
  cases hb with
  | agg l xs ys b hl ha hg h =>
    obtain ⟨a1, rfl, h1, h2⟩ := vr_agg hx
    obtain ⟨a2, rfl, h3, h4⟩ := vr_agg hy
    have hE := (leafs_ok 20 ty _ hl 10000 w _ _ b (by omega) h).1 ha a1 a2 h1 h3 h2 h4
    have g1 : (eqGuard .eql ty X Y (.agg a1) (.agg a2)).run P w = .ok () w := by simp [eqGuard, hg]
    have g2 : (eqGuard .neq ty X Y (.agg a1) (.agg a2)).run P w = .ok () w := by simp [eqGuard, hg]
    constructor
    · simp only [Sem.run_bind, g1, Result.andThen_ok, Go.run_eql_struct, hE]
    · simp only [Sem.run_bind, g2, Result.andThen_ok, Go.run_neq_struct, hE]
  | int k i j h =>
    rw [vr_int hx, vr_int hy]
    constructor <;> simp [eqGuard, binOp, Op.intCmp, bne]
  | bool i j h =>
    rw [vr_bool hx, vr_bool hy]
    have hE := equal_run (P := P) (w := w) (ty := ty) (c := .bool i) (d := .bool j) (b := i == j) (fun n => Go.run_equalIn_bool' w n ty i j h)
    have g : ∀ op, (eqGuard op ty X Y (.bool i) (.bool j)).run P w = .ok () w := fun op => by cases op <;> rfl
    exact ⟨by simp only [Sem.run_bind, g, Result.andThen_ok]; exact eql_run hE rfl, by simp only [Sem.run_bind, g, Result.andThen_ok]; exact neq_run hE rfl⟩
  | str i j h =>
    rw [vr_str' hx, vr_str' hy]
    have g : ∀ op, (eqGuard op ty X Y (.string ⟨i.toArray⟩) (.string ⟨j.toArray⟩)).run P w = .ok () w := fun op => by cases op <;> rfl
    exact ⟨by simp only [Sem.run_bind, g, Result.andThen_ok, binOp, Op.stringOp, Go.ByteArray.toList_mk, Sem.run_pure], by simp only [Sem.run_bind, g, Result.andThen_ok, binOp, Op.stringOp, Go.ByteArray.toList_mk, Sem.run_pure]⟩
  | fn1 ps rs va h f cs =>
    obtain ⟨arr, rfl, _⟩ := vr_fn hx
    rw [vr_nilf hy]
    have hE := equal_run (P := P) (w := w) (ty := ty) (c := .func (.func f) #[] arr) (d := .nilFunc) (b := false) (fun n => by simp only [Op.equalIn, Sem.run_bind, r_und h, Result.andThen_ok, Sem.run_pure])
    have g : ∀ op, (eqGuard op ty X Y (.func (.func f) #[] arr) .nilFunc).run P w = .ok () w := fun op => by cases op <;> rfl
    exact ⟨by simp only [Sem.run_bind, g, Result.andThen_ok]; exact eql_run hE rfl, by simp only [Sem.run_bind, g, Result.andThen_ok]; exact neq_run hE rfl⟩
  | fn2 ps rs va h f cs =>
    obtain ⟨arr, rfl, _⟩ := vr_fn hy
    rw [vr_nilf hx]
    have hE := equal_run (P := P) (w := w) (ty := ty) (c := .nilFunc) (d := .func (.func f) #[] arr) (b := false) (fun n => by simp only [Op.equalIn, Sem.run_bind, r_und h, Result.andThen_ok, Sem.run_pure])
    have g : ∀ op, (eqGuard op ty X Y .nilFunc (.func (.func f) #[] arr)).run P w = .ok () w := fun op => by cases op <;> rfl
    exact ⟨by simp only [Sem.run_bind, g, Result.andThen_ok]; exact eql_run hE rfl, by simp only [Sem.run_bind, g, Result.andThen_ok]; exact neq_run hE rfl⟩
  | fn0 ps rs va h =>
    rw [vr_nilf hx, vr_nilf hy]
    have hE := equal_run (P := P) (w := w) (ty := ty) (c := .nilFunc) (d := .nilFunc) (b := true) (fun n => by simp only [Op.equalIn, Sem.run_bind, r_und h, Result.andThen_ok, Sem.run_pure])
    have g : ∀ op, (eqGuard op ty X Y .nilFunc .nilFunc).run P w = .ok () w := fun op => by cases op <;> rfl
    exact ⟨by simp only [Sem.run_bind, g, Result.andThen_ok]; exact eql_run hE rfl, by simp only [Sem.run_bind, g, Result.andThen_ok]; exact neq_run hE rfl⟩
  | sl1 e h x hxs =>
    obtain ⟨a, n, m, rfl⟩ := slice_some hx hxs
    rw [vr_nils hy]
    have hE := equal_run (P := P) (w := w) (ty := ty) (c := .slice (some a) n m) (d := .slice none 0 0) (b := false) (fun n => by simp only [Op.equalIn, Sem.run_bind, r_und h, Result.andThen_ok, Sem.run_pure])
    have g : ∀ op, (eqGuard op ty X Y (.slice (some a) n m) (.slice none 0 0)).run P w = .ok () w := fun op => by cases op <;> rfl
    exact ⟨by simp only [Sem.run_bind, g, Result.andThen_ok]; exact eql_run hE rfl, by simp only [Sem.run_bind, g, Result.andThen_ok]; exact neq_run hE rfl⟩
  | sl2 e h x hxs =>
    obtain ⟨a, n, m, rfl⟩ := slice_some hy hxs
    rw [vr_nils hx]
    have hE := equal_run (P := P) (w := w) (ty := ty) (c := .slice none 0 0) (d := .slice (some a) n m) (b := false) (fun n => by simp only [Op.equalIn, Sem.run_bind, r_und h, Result.andThen_ok, Option.isNone_some, Sem.run_pure])
    have g : ∀ op, (eqGuard op ty X Y (.slice none 0 0) (.slice (some a) n m)).run P w = .ok () w := fun op => by cases op <;> rfl
    exact ⟨by simp only [Sem.run_bind, g, Result.andThen_ok]; exact eql_run hE rfl, by simp only [Sem.run_bind, g, Result.andThen_ok]; exact neq_run hE rfl⟩
  | sl0 e h =>
    rw [vr_nils hx, vr_nils hy]
    have hE := equal_run (P := P) (w := w) (ty := ty) (c := .slice none 0 0) (d := .slice none 0 0) (b := true) (fun n => by simp only [Op.equalIn, Sem.run_bind, r_und h, Result.andThen_ok, Option.isNone_none, Sem.run_pure])
    have g : ∀ op, (eqGuard op ty X Y (.slice none 0 0) (.slice none 0 0)).run P w = .ok () w := fun op => by cases op <;> rfl
    exact ⟨by simp only [Sem.run_bind, g, Result.andThen_ok]; exact eql_run hE rfl, by simp only [Sem.run_bind, g, Result.andThen_ok]; exact neq_run hE rfl⟩

end

section
variable {P : Program} {gl : Nat → Option (List V)} {inl : FuncId → Bool} {call : CallF} {s : St} {h h' : H} {t : T} {v : V} {o : O} {oper : Oper} {ρ : Operand → Value} {iso : Bool}

theorem ok_eq {op : BinOp} {ty ty' : TypeId} {x y : Operand} (hop : oper.op = .binOp op ty x y ty') (hno : isOpInt op = false) (hI : Inv gl s) (hev : Hev gl s t o ρ) (hc : compOp P gl iso oper = some o)
    (he : opE inl call o t h = some (v, h')) : OkOp gl s h h' v ((execOp ρ oper).run P s.w) := by
  simp only [compOp, hop, hno, Bool.false_eq_true, if_false] at hc
  split at hc
  · rename_i q1 q2 h1 h2
    rw [Option.map_eq_some_iff] at hc
    obtain ⟨e, h3, rfl⟩ := hc
    obtain ⟨h4, rfl⟩ := map_pair (by simpa only [opE] using he)
    rw [Option.map_eq_some_iff] at h4
    obtain ⟨b, h5, rfl⟩ := h4
    obtain ⟨r1, r2⟩ := eq_run (w := s.w) (hev x q1 h1 (by simp [O.args])) (hev y q2 h2 (by simp [O.args])) (eqCase h3 h5) x y
    have ho : op = .eql ∨ op = .neq := by cases op <;> simp_all [isOpInt]
    have e1 : (b != (BinOp.eql == BinOp.neq)) = b := by cases b <;> rfl
    have e2 : (b != (BinOp.neq == BinOp.neq)) = !b := by cases b <;> rfl
    rcases ho with rfl | rfl
    · rw [e1]
      refine ok_pure hI (c := .bool b) ?_ (cbool b)
      simp only [execOp, hop, Sem.run_bind] at r1 ⊢
      rw [r1]; rfl
    · rw [e2]
      refine ok_pure hI (c := .bool !b) ?_ (cbool (!b))
      simp only [execOp, hop, Sem.run_bind] at r2 ⊢
      rw [r2]; rfl
  · cases hc

end
end Go.Am
