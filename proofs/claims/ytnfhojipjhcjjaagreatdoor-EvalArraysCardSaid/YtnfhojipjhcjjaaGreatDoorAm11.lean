/-
  ONE OPERATION OF THE MACHINE DOES WHAT THE EVALUATOR SAYS, EIGHTH PART: maps, bytes of strings, writes. Conditions: as each lemma names them.
-/
import Derived.Test.YtnfhojipjhcjjaaGreatDoorAm10
import Derived.MapKept
import Derived.Laws.IdiomStrings
namespace Go.Am
set_option autoImplicit false
set_option linter.unusedVariables false
set_option linter.unusedSimpArgs false

section
variable {P : Program} {gl : Nat → Option (List V)} {inl : FuncId → Bool} {call : CallF} {s : St} {h h' : H} {t : T} {v : V} {o : O} {oper : Oper} {ρ : Operand → Value} {iso : Bool}

/-- A key's kind. -/
def Kind (d : TypeDesc) (l : List LK) : Prop := (∃ k, d = .int k ∧ l = [.int k]) ∨ (d = .bool ∧ l = [.bool]) ∨ (d = .string ∧ l = [.str])

theorem keyB_ok {ty : TypeId} {l : List LK} {ka : Bool} (h : keyB P ty = some (l, ka)) : ka = false ∧ ∃ d, P.underlying ty = some d ∧ Kind d l := by
  unfold keyB at h
  split at h
  · rename_i k hu; simp only [Option.some.injEq, Prod.mk.injEq] at h; obtain ⟨rfl, rfl⟩ := h; exact ⟨rfl, _, hu, .inl ⟨k, rfl, rfl⟩⟩
  · rename_i hu; simp only [Option.some.injEq, Prod.mk.injEq] at h; obtain ⟨rfl, rfl⟩ := h; exact ⟨rfl, _, hu, .inr (.inl ⟨rfl, rfl⟩)⟩
  · rename_i hu; simp only [Option.some.injEq, Prod.mk.injEq] at h; obtain ⟨rfl, rfl⟩ := h; exact ⟨rfl, _, hu, .inr (.inr ⟨rfl, rfl⟩)⟩
  · cases h

theorem eqV_key {l : List LK} {x y : V} {b : Bool} (h : eqV (.sc l false) x y = some b) : eqL l [x] [y] = some b := by
  simp only [eqV] at h
  split at h
  · exact h
  · cases h

/-- One key against another. -/
theorem same_ok {d : TypeDesc} {l : List LK} {x y : V} {a c : Value} {b : Bool} (hk : Kind d l) (h : eqL l [x] [y] = some b) (hx : s.vr x a) (hy : s.vr y c) :
    Instr.sameNow d a c = some b ∧ (b = true → Instr.sameBits 10000 c a = true) ∧ MapKept.IsKey d a := by
  rcases hk with ⟨k, rfl, rfl⟩ | ⟨rfl, rfl⟩ | ⟨rfl, rfl⟩
  · obtain ⟨i, j, e1, e2, rfl⟩ := eqL_int1 h
    injection e1 with e1; injection e2 with e2; subst e1 e2
    rw [vr_int hx, vr_int hy]
    refine ⟨by simp [Instr.sameNow], fun e => ?_, ?_⟩
    · have : i = j := by simpa using e
      subst this; simp [Instr.sameBits]
    · simp [MapKept.IsKey]
  · obtain ⟨i, j, e1, e2, rfl⟩ := eqL_bool1 h
    injection e1 with e1; injection e2 with e2; subst e1 e2
    rw [vr_bool hx, vr_bool hy]
    refine ⟨by simp [Instr.sameNow], fun e => ?_, ?_⟩
    · have : i = j := by simpa using e
      subst this; simp [Instr.sameBits]
    · simp [MapKept.IsKey]
  · obtain ⟨i, j, e1, e2, rfl⟩ := eqL_str1 h
    injection e1 with e1; injection e2 with e2; subst e1 e2
    rw [vr_str' hx, vr_str' hy]
    have he : ((ByteArray.mk i.toArray) == (ByteArray.mk j.toArray)) = (i == j) := by
      rw [Bool.eq_iff_iff, MapKept.bytes_beq, beq_iff_eq]
      constructor
      · intro e; injection e with e; simpa using e
      · rintro rfl; rfl
    refine ⟨by simp [Instr.sameNow, he], fun e => ?_, ?_⟩
    · have : i = j := by simpa using e
      subst this; simp [Instr.sameBits, MapKept.bytes_beq]
    · simp [MapKept.IsKey]

/-- The place of a key. -/
theorem find_ok {d : TypeDesc} {l : List LK} {k : V} {a : Value} (hk : Kind d l) (hx : s.vr k a) : ∀ (ks : List V) (es : List MapEntry) (i : Nat) (r : Option Nat), es.length = ks.length →
    (∀ (i : Nat) (x : V) (e : MapEntry), ks[i]? = some x → es[i]? = some e → s.vr x e.key) → findK l false k ks = some r →
    (r = none ∧ Instr.findNow d a es i = some none) ∨ ∃ j e, r = some j ∧ es[j]? = some e ∧ Instr.findNow d a es i = some (some (i + j, e.val)) ∧ Instr.sameBits 10000 e.key a = true ∧ MapKept.IsKey d a
  | [], [], i, r, _, _, h => by simp [findK] at h; subst h; exact .inl ⟨rfl, rfl⟩
  | x :: ks, e :: es, i, r, hl, hr, h => by
    simp only [findK] at h
    split at h
    · rename_i he
      injection h with h; subst h
      obtain ⟨h1, h2, h3⟩ := same_ok hk (eqV_key he) hx (hr 0 x e rfl rfl)
      exact .inr ⟨0, e, rfl, rfl, by simp [Instr.findNow, h1], h2 rfl, h3⟩
    · rename_i he
      rw [Option.map_eq_some_iff] at h
      obtain ⟨r', h4, rfl⟩ := h
      obtain ⟨h1, _, _⟩ := same_ok hk (eqV_key he) hx (hr 0 x e rfl rfl)
      rcases find_ok hk hx ks es (i + 1) r' (by simpa using hl) (fun i x e a b => hr (i + 1) x e (by simpa using a) (by simpa using b)) h4 with ⟨rfl, h5⟩ | ⟨j, e', rfl, h5, h6, h7, h8⟩
      · exact .inl ⟨rfl, by simp [Instr.findNow, h1, h5]⟩
      · exact .inr ⟨j + 1, e', rfl, by simpa using h5, by simp [Instr.findNow, h1, h6]; omega, h7, h8⟩
    · cases h

theorem mapOf_ok {m : V} {c : Value} {ks vs : List V} (hI : Inv gl s) (hm : s.vr m c) (ha : ∀ id, m = .omap id → s.G id ≠ none → (s.G id).map Ob.frozen = (h[id]?).map Ob.frozen) (hr : mapOf h m = some (ks, vs)) :
    (c = .map none ∧ ks = [] ∧ vs = []) ∨ ∃ g es k, c = .map (some g) ∧ s.w.heap[g]? = some (.map es k) ∧ es.size = ks.length ∧ ks.length = vs.length ∧
      (∀ (i : Nat) (x : V) (e : MapEntry), ks[i]? = some x → es[i]? = some e → s.vr x e.key) ∧ (∀ (i : Nat) (x : V) (e : MapEntry), vs[i]? = some x → es[i]? = some e → s.vr x e.val) := by
  unfold mapOf at hr
  split at hr
  · simp only [Option.some.injEq, Prod.mk.injEq] at hr
    obtain ⟨rfl, rfl⟩ := hr
    exact .inl ⟨vr_nilm hm, rfl, rfl⟩
  · simp only [Option.some.injEq, Prod.mk.injEq] at hr
    obtain ⟨rfl, rfl⟩ := hr
    obtain ⟨g, es, k, rfl, hg, hn, hv, h1, h2⟩ := vr_imap hm
    exact .inr ⟨g, es, k, rfl, (St.rd_some.1 hg).2, hn, hv, fun i x e a b => .cl _ _ (h1 i x e a b), fun i x e a b => .cl _ _ (h2 i x e a b)⟩
  · rename_i id
    split at hr
    · rename_i m' ks' vs' hh
      simp only [Option.some.injEq, Prod.mk.injEq] at hr
      obtain ⟨rfl, rfl⟩ := hr
      rcases vr_omap hm with ⟨l, hM, rfl⟩ | ⟨hd, _⟩
      · obtain ⟨m'', es, k, k1, k2, k3, k4, k5, k6⟩ := agr_map hI hM (ha id rfl) hh
        exact .inr ⟨l.g, es, k, rfl, k2, k3, k4, k5, k6⟩
      · have := agr_dead hd (ha id rfl) hh; cases this
    · cases hr
  · cases hr

theorem ok_look {ty : TypeId} {m k : Operand} {cok : Bool} (hop : oper.op = .lookup ty m k cok) (hns : P.underlying ty ≠ some .string) (hI : Inv gl s) (hev : Hev gl s t o ρ) (hc : compOp P gl iso oper = some o)
    (he : opE inl call o t h = some (v, h')) (hp : Pre s h h' (fpE o t h)) : OkOp gl s h h' v ((execOp ρ oper).run P s.w) := by
  simp only [compOp, hop] at hc
  split at hc
  · rename_i kt e hu
    split at hc
    · rename_i l a z q1 q2 hkb hz hx1 hx2
      injection hc with hc; subst hc
      obtain ⟨rfl, d, hd, hk⟩ := keyB_ok hkb
      obtain ⟨h3, rfl⟩ := map_pair (by simpa only [opE] using he)
      obtain ⟨zv, hzr, hzv⟩ := zeroV_ok hz s s.w
      have hm := hev m q1 hx1 (by simp [O.args])
      have hkey := hev k q2 hx2 (by simp [O.args])
      unfold look at h3
      split at h3
      · cases h3
      · rename_i ks vs hmo
        have hmm := mapOf_ok hI hm (fun id e => hp.r id (by simp [fpE, e])) hmo
        split at h3
        · cases h3
        · rename_i hf
          split at h3
          · rename_i hself
            injection h3 with h3; subst h3
            obtain ⟨b, hb⟩ := Option.isSome_iff_exists.1 hself
            obtain ⟨_, _, hik⟩ := same_ok hk (eqV_key hb) hkey hkey
            refine ok_pure hI (c := if cok then .tuple #[zv, .bool false] else zv) ?_ ?_
            · rcases hmm with ⟨e1, rfl, rfl⟩ | ⟨g, es, kk, e1, hg, hn, hv, hr1, hr2⟩
              · simp only [execOp, hop, Instr.lookup, Sem.run_bind, r_und hu, Result.andThen_ok, e1, Sem.run_pure, MapKept.run_checkKey hd hik _ 9999, MapKept.run_findKey hd (show Instr.findNow d (ρ k) (#[] : Array MapEntry).toList 0 = some none from rfl), hzr]
              · rcases find_ok hk hkey ks es.toList 0 _ (by simpa using hn) (fun i x e a b => hr1 i x e a (by simpa using b)) hf with ⟨_, h5⟩ | ⟨j, e', h4, _⟩
                · simp only [execOp, hop, Instr.lookup, Sem.run_bind, r_und hu, Result.andThen_ok, e1, Sem.run_pure, MapKept.run_getObj_map hg, MapKept.run_checkKey hd hik _ 9999, MapKept.run_findKey hd h5, hzr]
                · cases h4
            · cases cok
              · exact hzv
              · refine .tup _ _ rfl (fun i x y a b => ?_)
                rcases i with _ | _ | i
                · simp at a b; subst a b; exact hzv
                · simp at a b; subst a b; exact .cl _ _ (.bool false)
                · simp at a
          · cases h3
        · rename_i i hf
          rw [Option.map_eq_some_iff] at h3
          obtain ⟨u, hu2, rfl⟩ := h3
          rcases hmm with ⟨e1, rfl, rfl⟩ | ⟨g, es, kk, e1, hg, hn, hv, hr1, hr2⟩
          · simp at hu2
          · rcases find_ok hk hkey ks es.toList 0 _ (by simpa using hn) (fun i x e a b => hr1 i x e a (by simpa using b)) hf with ⟨h4, _⟩ | ⟨j, e', h4, h5, h6, h7, h8⟩
            · cases h4
            · injection h4 with h4; subst h4
              have hval := hr2 i u e' hu2 (by simpa using h5)
              refine ok_pure hI (c := if cok then .tuple #[e'.val, .bool true] else e'.val) ?_ ?_
              · simp only [execOp, hop, Instr.lookup, Sem.run_bind, r_und hu, Result.andThen_ok, e1, Sem.run_pure, MapKept.run_getObj_map hg, MapKept.run_checkKey hd h8 _ 9999, MapKept.run_findKey hd h6]
              · cases cok
                · exact hval
                · refine .tup _ _ rfl (fun i x y a b => ?_)
                  rcases i with _ | _ | i
                  · simp at a b; subst a b; exact hval
                  · simp at a b; subst a b; exact .cl _ _ (.bool true)
                  · simp at a
    · cases hc
  · cases hc

theorem upd_set {G : Nat → Option Ob} {id : Nat} {x : Ob} (hlt : id < h.length) (hne : h[id]? ≠ some x ∨ G id = some x) : setG G id (some x) = upd G h (h.set id x) := by
  funext i
  unfold setG upd
  by_cases h1 : i = id
  · subst h1
    rw [if_pos rfl, List.getElem?_set_self hlt]
    split
    · rename_i e
      rcases hne with hne | hne
      · exact absurd e.symm hne
      · exact hne.symm
    · rfl
  · rw [if_neg h1, List.getElem?_set_ne (Ne.symm h1)]
    simp

/-- An object's cells are written. -/
theorem write_ok {id : Nat} {l : Loc} {x : Ob} {w' : World} {c : Value} {nx : Next} {r : Result Next} {o' : Ob} (hI : Inv gl s) (hM : s.M id = some l) (hG : s.G id = some o') (hmo : o'.mut = true) (hx : x.mut = true) (hh : h[id]? = some o') (hrun : r = .ok nx w') (hnx : nx = .value c ∨ (nx = .skip ∧ c = undef))
    (hos : w'.os = s.w.os) (htape : w'.tape = s.w.tape) (hout : w'.output = s.w.output) (hsize : w'.heap.size = s.w.heap.size) (hoth : ∀ g, g ≠ l.g → w'.heap[g]? = s.w.heap[g]?)
    (hblk : ∀ cs, x = .blk true cs → ∃ arr e, w'.heap[l.g]? = some (.cells arr e (0, 0)) ∧ arr.size = l.x ∧ l.b + cs.length ≤ l.x ∧ ∀ (i : Nat) (x : V) (y : Value), cs[i]? = some x → arr[l.b + i]? = some y → s.vr x y)
    (hmap : ∀ ks vs, x = .map true ks vs → ∃ es k, w'.heap[l.g]? = some (.map es k) ∧ es.size = ks.length ∧ ks.length = vs.length ∧
      (∀ (i : Nat) (x : V) (e : MapEntry), ks[i]? = some x → es[i]? = some e → s.vr x e.key) ∧ (∀ (i : Nat) (x : V) (e : MapEntry), vs[i]? = some x → es[i]? = some e → s.vr x e.val))
    (hv : ∀ s' : St, s'.M = s.M → s'.vr v c) : OkOp gl s h (h.set id x) v r := by
  obtain ⟨hI1, hE1⟩ := hI.write id l hM ⟨_, hG, hmo⟩ x hx w' hos htape hout hsize hoth hblk hmap
  refine ⟨_, c, nx, hrun, hnx, hI1, hE1, hv _ rfl, ?_, fun id l hm => .inl hm⟩
  refine upd_set (List.getElem?_eq_some_iff.1 hh).1 ?_
  by_cases e : h[id]? = some x
  · right; rw [hG, ← hh, e]
  · exact .inl e

/-- An object that may be written, as it lies. -/
theorem agr_mut {id : Nat} {l : Loc} {x : Ob} (hI : Inv gl s) (hM : s.M id = some l) (ha : s.G id ≠ none → s.G id = h[id]?) (hh : h[id]? = some x) : s.G id = some x := by
  obtain ⟨y, hy, _⟩ := hI.has id l hM
  rw [ha (by rw [hy]; simp), hh]

theorem dead_mut {id : Nat} {x : Ob} (hd : s.dead id) (ha : s.G id ≠ none → s.G id = h[id]?) (hh : h[id]? = some x) : x = .dead := by
  have := ha (by rw [hd]; simp)
  rw [hd, hh] at this
  injection this with this
  exact this.symm

theorem vund {s : St} : s.vr .und undef := .cl _ _ .und

theorem mupd_core {ty kt et : TypeId} {m k x : Operand} {l : List LK} {a : Bool} {q1 q2 q3 : A} (hu : P.underlying ty = some (.map kt et)) (hkb : keyB P kt = some (l, a)) (hx1 : opd gl m = some q1) (hx2 : opd gl k = some q2) (hx3 : opd gl x = some q3)
    (hrun : execOp ρ oper = (do Instr.mapUpdate ty (ρ m) (ρ k) (ρ x); pure .skip)) (hI : Inv gl s) (hev : Hev gl s t (.mupd l a q1 q2 q3) ρ)
    (he : opE inl call (.mupd l a q1 q2 q3) t h = some (v, h')) (hp : Pre s h h' (fpE (.mupd l a q1 q2 q3) t h)) : OkOp gl s h h' v ((execOp ρ oper).run P s.w) := by
  rw [hrun]
  obtain ⟨rfl, d, hd, hk⟩ := keyB_ok hkb
  simp only [opE, Option.map_eq_some_iff, Prod.mk.injEq] at he
  obtain ⟨h2, he, rfl, rfl⟩ := he
  have hm := hev m q1 hx1 (by simp [O.args])
  have hkey := hev k q2 hx2 (by simp [O.args])
  have hval := hev x q3 hx3 (by simp [O.args])
  unfold mupd at he
  split at he
  · rename_i id hq
    rw [hq] at hm
    have hag := hp.w id (by simp [fpE, hq])
    split at he
    · rename_i ks vs hh
      rcases vr_omap hm with ⟨lc, hM, e1⟩ | ⟨hdd, _⟩
      · have hG := agr_mut hI hM hag hh
        obtain ⟨es, kk, hg, hn, hv, hr1, hr2⟩ := hI.map id lc true ks vs hM hG
        have hgl : lc.g < s.w.heap.size := (Array.getElem?_eq_some_iff.1 hg).1
        split at he
        · cases he
        · rename_i i hf
          split at he
          · rename_i hlen
            injection he with he; subst he
            rcases find_ok hk hkey ks es.toList 0 _ (by simpa using hn) (fun i x e a b => hr1 i x e a (by simpa using b)) hf with ⟨h4, _⟩ | ⟨j, e', h4, h5, h6, h7, h8⟩
            · cases h4
            · injection h4 with h4; subst h4
              have h5' : es[i]? = some e' := by simpa using h5
              refine write_ok (w' := { s.w with heap := s.w.heap.setIfInBounds lc.g (.map (es.modify i fun e => { e with key := ρ k, val := ρ x }) kk) }) (c := undef) (nx := .skip) hI hM hG rfl rfl hh ?_ (.inr ⟨rfl, rfl⟩) rfl rfl rfl (by simp) (fun g hne => by simp [Ne.symm hne]) (fun cs e => by cases e) (fun ks' vs' e => ?_) (fun s' _ => vund)
              · simp only [Instr.mapUpdate, Sem.run_bind, r_und hu, Result.andThen_ok, e1, Sem.run_pure, MapKept.run_getObj_map hg, MapKept.run_checkKey hd h8 _ 9999, MapKept.run_findKey hd h6, Nat.zero_add, h5', Option.map_some, Option.getD_some, Instr.keyThatStays, h7, if_true, MapKept.run_setObj_map _ hg]
              · injection e with _ e2 e3; subst e2 e3
                refine ⟨es.modify i fun e => { e with key := ρ k, val := ρ x }, kk, by simp [hgl], by simpa using hn, by simpa using hv, fun j y e a b => ?_, fun j y e a b => ?_⟩
                · rw [Array.getElem?_modify] at b
                  rw [List.getElem?_set] at a
                  by_cases hj : i = j
                  · subst hj
                    rw [if_pos rfl, Option.map_eq_some_iff] at b
                    obtain ⟨e0, _, rfl⟩ := b
                    rw [if_pos rfl] at a
                    split at a
                    · injection a with a; subst a; exact hkey
                    · cases a
                  · rw [if_neg hj] at a b; exact hr1 j y e a b
                · rw [Array.getElem?_modify] at b
                  rw [List.getElem?_set] at a
                  by_cases hj : i = j
                  · subst hj
                    rw [if_pos rfl, Option.map_eq_some_iff] at b
                    obtain ⟨e0, _, rfl⟩ := b
                    rw [if_pos rfl] at a
                    split at a
                    · injection a with a; subst a; exact hval
                    · cases a
                  · rw [if_neg hj] at a b; exact hr2 j y e a b
          · rename_i hne; exact absurd hv hne
        · rename_i hf
          split at he
          · rename_i hcond
            injection he with he; subst he
            obtain ⟨b, hb⟩ := Option.isSome_iff_exists.1 hcond.1
            obtain ⟨_, _, hik⟩ := same_ok hk (eqV_key hb) hkey hkey
            rcases find_ok hk hkey ks es.toList 0 _ (by simpa using hn) (fun i x e a b => hr1 i x e a (by simpa using b)) hf with ⟨_, h5⟩ | ⟨j, e', h4, _⟩
            · refine write_ok (w' := { s.w with heap := s.w.heap.setIfInBounds lc.g (.map (es.push { key := ρ k, val := ρ x, born := kk }) (kk + 1)) }) (c := undef) (nx := .skip) hI hM hG rfl rfl hh ?_ (.inr ⟨rfl, rfl⟩) rfl rfl rfl (by simp) (fun g hne => by simp [Ne.symm hne]) (fun cs e => by cases e) (fun ks' vs' e => ?_) (fun s' _ => vund)
              · simp only [Instr.mapUpdate, Sem.run_bind, r_und hu, Result.andThen_ok, e1, Sem.run_pure, MapKept.run_getObj_map hg, MapKept.run_checkKey hd hik _ 9999, MapKept.run_findKey hd h5, MapKept.run_setObj_map _ hg]
              · injection e with _ e2 e3; subst e2 e3
                refine ⟨es.push { key := ρ k, val := ρ x, born := kk }, kk + 1, by simp [hgl], by simpa using hn, by simpa using hv, fun j y e a b => ?_, fun j y e a b => ?_⟩
                · rw [Array.getElem?_push] at b
                  split at b
                  · rename_i hj
                    injection b with b; subst b
                    rw [List.getElem?_append_right (by omega), hj, hn] at a
                    simp at a; subst a; exact hkey
                  · rename_i hj
                    have hj' : j < es.size := (Array.getElem?_eq_some_iff.1 b).1
                    rw [List.getElem?_append_left (by omega)] at a
                    exact hr1 j y e a b
                · rw [Array.getElem?_push] at b
                  split at b
                  · rename_i hj
                    injection b with b; subst b
                    rw [List.getElem?_append_right (by omega), hj, hn, hv] at a
                    simp at a; subst a; exact hval
                  · rename_i hj
                    have hj' : j < es.size := (Array.getElem?_eq_some_iff.1 b).1
                    rw [List.getElem?_append_left (by omega)] at a
                    exact hr2 j y e a b
            · cases h4
          · cases he
      · have := dead_mut hdd hag hh; cases this
    · cases he
  · cases he

theorem ok_mupd {ty : TypeId} {m k x : Operand} (hop : oper.op = .mapUpdate ty m k x ∨ oper.op = .insert ty m k x) (hI : Inv gl s) (hev : Hev gl s t o ρ) (hc : compOp P gl iso oper = some o)
    (he : opE inl call o t h = some (v, h')) (hp : Pre s h h' (fpE o t h)) : OkOp gl s h h' v ((execOp ρ oper).run P s.w) := by
  have hrun : execOp ρ oper = (do Instr.mapUpdate ty (ρ m) (ρ k) (ρ x); pure .skip) := by rcases hop with e | e <;> simp only [execOp, e]
  rcases hop with e | e <;> simp only [compOp, e] at hc
  all_goals
    split at hc
    · rename_i kt et hu
      split at hc
      · rename_i l a q1 q2 q3 hkb hx1 hx2 hx3
        injection hc with hc; subst hc
        exact mupd_core hu hkb hx1 hx2 hx3 hrun hI hev he hp
      · cases hc
    · cases hc

/-- The bytes of a string. -/
theorem ok_s2b {sd dd e : TypeId} {x : Operand} (hop : oper.op = .convert sd dd x) (hs : P.underlying sd = some .string) (hd : P.underlying dd = some (.slice e)) (hu8 : P.underlying e = some (.int .u8)) (hI : Inv gl s) (hev : Hev gl s t o ρ)
    (hc : compOp P gl iso oper = some o) (he : opE inl call o t h = some (v, h')) : OkOp gl s h h' v ((execOp ρ oper).run P s.w) := by
  cases hx : opd gl x with
  | none => simp [compOp, hop, hx] at hc
  | some q =>
    simp only [compOp, hop, hx, hs, hd, hu8, Option.some.injEq] at hc
    subst hc
    simp only [opE] at he
    split at he
    · rename_i l hq
      simp only [Option.some.injEq, Prod.mk.injEq] at he
      obtain ⟨rfl, rfl⟩ := he
      have hv := vr_str' (hq ▸ hev x q hx (by simp [O.args]))
      have hrun := Go.run_bytes_of_string (P := P) s.w sd dd e ⟨l.toArray⟩ hs hd hu8
      obtain ⟨hI0, hE0⟩ := hI.drawn (s.w.drawn + 1)
      obtain ⟨hI1, hE1⟩ := hI0.junk (.cells (Go.bytesRow ⟨l.toArray⟩ (grownCap s.w (ByteArray.mk l.toArray).size 0 e)) e ((Go.bytesRow ⟨l.toArray⟩ (grownCap s.w (ByteArray.mk l.toArray).size 0 e)).size, (Go.bytesRow ⟨l.toArray⟩ (grownCap s.w (ByteArray.mk l.toArray).size 0 e)).size + 1))
      have hsz : (ByteArray.mk l.toArray).size = l.length := by simp [ByteArray.size]
      refine ⟨_, .slice (some ⟨s.w.heap.size, 0, none⟩) (ByteArray.mk l.toArray).size (grownCap s.w (ByteArray.mk l.toArray).size 0 e), _, ?_, .inl rfl, hI1, hE0.trans hE1, ?_, (upd_same _ _).symm, fun _ _ h => .inl h⟩
      · simp only [execOp, hop, hv, Sem.run_bind, hrun, Result.andThen_ok, Sem.run_pure]
        rfl
      · rw [hsz]
        refine .cl _ _ (.isl _ _ _ _ s.w.heap.size 0 (Go.bytesRow ⟨l.toArray⟩ (grownCap s.w l.length 0 e)) e ((Go.bytesRow ⟨l.toArray⟩ (grownCap s.w l.length 0 e)).size, (Go.bytesRow ⟨l.toArray⟩ (grownCap s.w l.length 0 e)).size + 1) ?_ (fun n hn => by cases hn) (St.rd_some.2 ⟨fun hc => ?_, ?_⟩) (fun i hi => ?_) (fun i x y a b => ?_))
        · exact grownCap_ge s.w l.length 0 e
        · have := wr_lt hI0 hc; simp at this
        · exact heap_new _ _
        · simp [ofU8] at hi; simp [Go.bytesRow, ByteArray.size]; omega
        · simp only [ofU8, List.getElem?_map, Option.map_eq_some_iff] at a
          obtain ⟨u, hu, rfl⟩ := a
          have hlt := (List.getElem?_eq_some_iff.1 hu).1
          obtain ⟨_, hu⟩ := List.getElem?_eq_some_iff.1 hu
          simp [Go.bytesRow, Array.getElem?_append, hlt, hu] at b
          subst b
          exact .int .u8 _
    · cases he

theorem ok_store {ty : TypeId} {p x : Operand} (hop : oper.op = .store ty p x) (hI : Inv gl s) (hev : Hev gl s t o ρ) (hc : compOp P gl iso oper = some o) (he : opE inl call o t h = some (v, h')) (hp : Pre s h h' (fpE o t h)) :
    OkOp gl s h h' v ((execOp ρ oper).run P s.w) := by
  simp only [compOp, hop] at hc
  split at hc
  · rename_i n q1 q2 hsz h1 h2
    injection hc with hc; subst hc
    simp only [opE, Option.map_eq_some_iff, Prod.mk.injEq] at he
    obtain ⟨h2', he, rfl, rfl⟩ := he
    have hpt := hev p q1 h1 (by simp [O.args])
    have hx := hev x q2 h2 (by simp [O.args])
    unfold store at he
    split at he
    · rename_i id off hq
      rw [hq] at hpt
      have hag := hp.w id (by simp [fpE, hq])
      split at he
      · rename_i cs hh
        split at he
        · rename_i hcond
          injection he with he; subst he
          rcases vr_own hpt with ⟨lc, hM, e1⟩ | ⟨hdd, _⟩
          · have hG := agr_mut hI hM hag hh
            obtain ⟨arr, e, fr, hg, hn, hle, hfr, hr⟩ := hI.blk id lc true cs hM hG
            have := hfr rfl; subst this
            obtain ⟨hcl, hcr⟩ := cells_rel hx
            have hstore : (Instr.storeAt ty (ρ p) (ρ x)).run P s.w = (storeCells ⟨lc.g, lc.b + off, none⟩ (ρ x).cells.toList).run P s.w := by
              have hcs : ¬ ((ρ x).cells.size ≠ n) := by omega
              simp only [Instr.storeAt, Instr.sureAddr, e1, storeVar, Sem.run_bind, Sem.run_pure, Result.andThen_ok, r_size hsz, if_neg hcs]
            have hcone : ∀ y ∈ (ρ x).cells.toList, y.oneCell' = true := fun y hy => by
              rw [Array.mem_toList_iff, Array.mem_iff_getElem?] at hy
              obtain ⟨i, hi⟩ := hy
              have hlt : i < (ev t q2).cells.length := by rw [hcl]; exact (Array.getElem?_eq_some_iff.1 hi).1
              have hone := List.all_eq_true.1 hcond.2.2 _ (List.getElem_mem hlt)
              exact one_rel (hcr i _ y (List.getElem?_eq_getElem hlt) hi) hone (fun hc => by rw [hc] at hone; cases hone)
            obtain ⟨w', arr', k1, k2, k3, k4, k5, k6, k7, k8, k9⟩ := r_storeCells (P := P) (g := lc.g) (o := lc.b + off) (e := e) (ρ x).cells.toList 0 arr s.w hg hcone (by simp; omega)
            · refine write_ok (w' := w') (c := undef) (nx := .skip) hI hM hG rfl rfl hh ?_ (.inr ⟨rfl, rfl⟩) k5 k6 k7 k8 k9 (fun cs' e' => ?_) (fun _ _ e' => by cases e') (fun s' _ => vund)
              · simp only [execOp, hop, Sem.run_bind, hstore, k1, Result.andThen_ok, Sem.run_pure]
              · injection e' with _ e'; subst e'
                refine ⟨arr', e, k2, by omega, by rw [splice_len (by omega)]; exact hle, fun i y z aa bb => ?_⟩
                rw [splice_get (by omega)] at aa
                rw [k4] at bb
                simp only [Array.length_toList, Nat.add_zero] at bb
                by_cases hi : off ≤ i ∧ i < off + (ev t q2).cells.length
                · rw [if_pos hi] at aa
                  rw [if_pos (by omega), show lc.b + i - (lc.b + off) = i - off from by omega] at bb
                  exact hcr _ _ _ aa (by simpa using bb)
                · rw [if_neg hi] at aa
                  rw [if_neg (by omega)] at bb
                  exact hr _ _ _ aa bb
          · have := dead_mut hdd hag hh; cases this
        · cases he
      · cases he
    · cases he
  · cases hc
end
end Go.Am
