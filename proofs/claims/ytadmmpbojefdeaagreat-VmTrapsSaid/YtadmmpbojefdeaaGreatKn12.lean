/-
  The engine is right: operations that change the heap (1): stores, maps. Conditions: none.
-/
import Derived.Test.YtadmmpbojefdeaaGreatKn11
namespace Go.Kn
open Go
variable {R : Type} {r : R}

/-- An operation turns the heap h into h'. -/
def HOk (P : Program) (E : En) (h : Hp) (nk : Nat) (op : Op) (v : V) (h' : Hp) (nk' : Nat) : Prop := nk ≤ nk' ∧ ∀ L ρ fr (ev : Operand → Value) (w : World), (∀ x ∈ op.operands.toList, Od L ρ E ev x) → Sat L ρ h.get fr w.heap → (∀ k, L k → k < nk) →
  ∃ n y w' L' ρ', (∀ oo : Oper, oo.op = op → (execOp ev oo).run P w = .ok n w') ∧ (n = .value y ∨ n = .skip ∧ y = undef) ∧ Frm w w' ∧ Ext L ρ L' ρ' ∧ (∀ k, L' k → k < nk' ∧ (L k ∨ nk ≤ k)) ∧ rel L' ρ' v y ∧ Sat L' ρ' h'.get fr w'.heap

theorem newK_some {h : Hp} {nk : Nat} {o : BO} {κ : Hp → Nat → Option R} (hh : newK h nk o κ = some r) : ∃ h', κ h' (nk + 1) = some r ∧ h'.get = updT h.get nk o := by
  obtain ⟨h', h1, h2⟩ := Tr.setK_some _ hh
  rw [natK_eq] at h1
  exact ⟨h', h1, set_updT h2⟩

theorem setK_upd {h : Hp} {k : Nat} {o : BO} {κ : Hp → Option R} {n : Nat} (hh : Tr.setK n h k o κ = some r) : ∃ h', κ h' = some r ∧ h'.get = updT h.get k o := by
  obtain ⟨h', h1, h2⟩ := Tr.setK_some _ hh
  exact ⟨h', h1, set_updT h2⟩

theorem putO_some {h : Hp} {k off : Nat} {us : List V} {κ : Hp → Option R} (hh : putO h k off us κ = some r) : ∃ a cs T h', κ h' = some r ∧ h.get k = some (.o a cs T) ∧ h'.get = updT h.get k (.o a (splice cs off us) T) ∧ off + us.length ≤ cs.length ∧ allOne us = true := by
  unfold putO at hh
  obtain ⟨h1, hh⟩ := cond_some hh
  obtain ⟨a, cs, T, h2, h3⟩ := asObj_some hh
  obtain ⟨h4, h5⟩ := putsK_some h3
  obtain ⟨h', h6, h7⟩ := setK_upd h4
  exact ⟨a, cs, T, h', h6, h2, h7, h5, h1⟩

section
variable {P : Program} {B : Tb} {E : En} {h : Hp}

/-- A new object, as a change of the heap. -/
theorem AOk.heavy {op : Op} {nk : Nat} {v : V} {o : BO} (ha : AOk P E op nk v o) {h' : Hp} (he : h'.get = updT h.get nk o) : HOk P E h nk op v h' (nk + 1) := by
  refine ⟨Nat.le_succ _, fun L ρ fr ev w ho hs hb => ?_⟩
  have hnk : ¬ L nk := fun hl => Nat.lt_irrefl _ (hb nk hl)
  obtain ⟨y, w', lc, h1, h2, h3, h4, h5, h6⟩ := ha L ρ ev w hnk ho
  refine ⟨.value y, y, w', _, _, h1, .inl rfl, h2, updρ_ext hnk lc, fun k hk => ?_, h6, by rw [he]; exact hs.alloc nk hnk lc o h3 h4 h5⟩
  rcases hk with hk | rfl
  · exact ⟨Nat.lt_succ_of_lt (hb k hk), .inl hk⟩
  · exact ⟨Nat.lt_succ_self _, .inr (Nat.le_refl _)⟩

/-- No new names. -/
theorem same_bd {L : Nat → Prop} {nk : Nat} (hb : ∀ k, L k → k < nk) : ∀ k, L k → k < nk ∧ (L k ∨ nk ≤ k) := fun k hk => ⟨hb k hk, .inl hk⟩

theorem hStore_ok (hT : TyOk P B) {t : Nat} {x y : Operand} {κ : Hp → Option R} (hh : hStore B E h t x y κ = some r) : ∃ h', κ h' = some r ∧ ∀ nk, HOk P E h nk (.store t x y) (.tup []) h' nk := by
  obtain ⟨v, h1, h2⟩ := opv_some (show opv E x _ = some r from hh)
  obtain ⟨k, off, rfl, h3⟩ := asPtr_some h2
  obtain ⟨u, h4, h5⟩ := opv_some h3
  obtain ⟨vs, h6, h7⟩ := cellsK_some h5
  rw [lenK_eq0] at h6
  have hsz : ∃ m i, P.info? t = some i ∧ i.size = m ∧ (bif Nat.beq vs.length m then putO h k off vs κ else none) = some r := by
    unfold sizeK at h6
    split at h6
    · rename_i n hk
      obtain ⟨i, d, g1, g2, g3⟩ := hT.knd _ _ hk
      simp only [KdOk] at g3
      exact ⟨n, i, g1, g3.2, h6⟩
    · rename_i kd hnk hk
      obtain ⟨i, d, g1, g2, g3⟩ := hT.knd _ _ hk
      exact ⟨1, i, g1, (kd_agg g3 (fun m e => hnk m (by rw [e]))).2, h6⟩
    · cases h6
  obtain ⟨m, i, g1, g2, h8⟩ := hsz
  obtain ⟨hb, h9⟩ := cond_some h8
  have hb := nat_beq hb
  obtain ⟨a, cs, T, h', h10, h11, h12, h13, h14⟩ := putO_some h9
  refine ⟨h', h10, fun nk => ⟨Nat.le_refl _, fun L ρ fr ev w ho hs hbd => ?_⟩⟩
  have hx := ho x (by simp [Op.operands]) _ h1
  simp only [rel] at hx
  obtain ⟨xs, e1, e2⟩ := h7 L ρ _ (ho y (by simp [Op.operands]) _ h4)
  obtain ⟨w', e3, e4, e5⟩ := store_cells (P := P) vs xs (off := off) 0 hs h11 (by omega) e2 h14
  refine ⟨.skip, undef, w', L, ρ, fun oo e => ?_, .inr ⟨rfl, rfl⟩, e5, Ext.refl _ _, same_bd hbd, by simp [rel, rels, undef], by rw [h12]; simpa using e4⟩
  have hl := rels_length e2
  have hsz : (ev y).cells.size = i.size := by rw [e1]; simp; omega
  simp only [execOp, e, Instr.storeAt, hx.2, Instr.sureAddr, Sem.run_bind, Sem.run_pure, Result.andThen_ok, storeVar, run_sizeOf g1]
  rw [if_neg (by rw [hsz]; simp)]
  simp only [e1, e3, Result.andThen_ok]

/-! Maps. -/
def setL (k v : V) (c : Nat) : List (V × V × Nat) → Option (List (V × V × Nat) × Bool)
  | [] => some ([(k, v, c)], true)
  | (a, u, b) :: l => match keyEq k a with
    | some true => some ((k, v, b) :: l, false)
    | some false => (setL k v c l).map fun p => ((a, u, b) :: p.1, p.2)
    | none => none

theorem setM_eq {k v : V} {c : Nat} : ∀ {es : List (V × V × Nat)} {κ : List (V × V × Nat) → Bool → Option R}, setM k v c es κ = (setL k v c es).bind fun p => κ p.1 p.2
  | [], κ => rfl
  | (a, u, b) :: es, κ => by
    cases hc : keyEq k a with
    | none => simp [setM, setL, hc]
    | some z => cases z with
      | true => simp [setM, setL, hc]
      | false => simp only [setM, setL, hc]; rw [setM_eq]; cases setL k v c es <;> rfl

def delL (k : V) : List (V × V × Nat) → Option (List (V × V × Nat))
  | [] => some []
  | (a, u, b) :: l => match keyEq k a with
    | some true => some l
    | some false => (delL k l).map fun p => (a, u, b) :: p
    | none => none

theorem delM_eq {k : V} : ∀ {es : List (V × V × Nat)} {κ : List (V × V × Nat) → Option R}, delM k es κ = (delL k es).bind κ
  | [], κ => rfl
  | (a, u, b) :: es, κ => by
    cases hc : keyEq k a with
    | none => simp [delM, delL, hc]
    | some z => cases z with
      | true => simp [delM, delL, hc]
      | false => simp only [delM, delL, hc]; rw [delM_eq]; cases delL k es <;> rfl

/-- Where a key stands. -/
theorem find_full {k : V} {d : TypeDesc} (hkey : ∀ {L ρ a c x y}, keyEq k a = some c → rel L ρ k x → rel L ρ a y → Instr.sameNow d x y = some c) {L : Nat → Prop} {ρ : Nat → Loc} {x : Value} (hx : rel L ρ k x) :
    ∀ {es : List (V × V × Nat)} {ms : List MapEntry} (i : Nat), ents L ρ es ms → (∀ v c, (setL k v c es).isSome = true) ∨ (delL k es).isSome = true ∨ (findM k es some).isSome = true →
    (Instr.findNow d x ms i = some none ∧ (∀ v c, setL k v c es = some (es ++ [(k, v, c)], true)) ∧ delL k es = some es ∧ findM k es some = some none) ∨
    ∃ j m v b, Instr.findNow d x ms i = some (some (i + j, m.val)) ∧ ms[j]? = some m ∧ rel L ρ v m.val ∧ m.born = b ∧ Instr.sameNow d x m.key = some true ∧ j < es.length ∧
      (∀ u c, setL k u c es = some (es.set j (k, u, b), false)) ∧ delL k es = some (es.eraseIdx j) ∧ findM k es some = some (some (v, b))
  | [], ms, i, he, _ => by
    simp only [ents] at he
    subst he
    exact .inl ⟨rfl, fun _ _ => rfl, rfl, rfl⟩
  | (a, v, b) :: es, ms, i, he, hs => by
    simp only [ents] at he
    obtain ⟨m, q, rfl, g1, g2, g3, g4⟩ := he
    cases hc : keyEq k a with
    | none =>
      exfalso
      rcases hs with hs | hs | hs
      · have := hs k 0; simp [setL, hc] at this
      · simp [delL, hc] at hs
      · simp [findM, hc] at hs
    | some z =>
      have hsn := hkey hc hx g1
      cases z with
      | true => exact .inr ⟨0, m, v, b, by simp [Instr.findNow, hsn], rfl, g2, g3, hsn, by simp, fun u c => by simp [setL, hc], by simp [delL, hc], by simp [findM, hc]⟩
      | false =>
        have hs' : (∀ v c, (setL k v c es).isSome = true) ∨ (delL k es).isSome = true ∨ (findM k es some).isSome = true := by
          rcases hs with hs | hs | hs
          · exact .inl fun v c => by have := hs v c; simpa [setL, hc] using this
          · exact .inr (.inl (by simpa [delL, hc] using hs))
          · exact .inr (.inr (by simpa [findM, hc] using hs))
        rcases find_full hkey hx (i + 1) g4 hs' with ⟨e1, e2, e3, e4⟩ | ⟨j, m', v', b', e1, e2, e3, e4, e5, e6, e7, e8, e9⟩
        · exact .inl ⟨by simp only [Instr.findNow, hsn]; exact e1, fun u c => by simp [setL, hc, e2], by simp [delL, hc, e3], by simpa [findM, hc] using e4⟩
        · exact .inr ⟨j + 1, m', v', b', by simp only [Instr.findNow, hsn]; rw [e1]; congr 3; omega, by simpa using e2, e3, e4, e5, by simp; omega, fun u c => by simp [setL, hc, e7], by simp [delL, hc, e8], by simpa [findM, hc] using e9⟩

theorem setL_some {k : V} : ∀ {es : List (V × V × Nat)} {v : V} {c : Nat}, (setL k v c es).isSome = true → ∀ v' c', (setL k v' c' es).isSome = true
  | [], _, _, _, _, _ => rfl
  | (a, u, b) :: es, v, c, h, v', c' => by
    simp only [setL] at h ⊢
    split at h <;> simp_all
    exact setL_some h v' c'

section
variable {L : Nat → Prop} {ρ : Nat → Loc}
theorem ents_get : ∀ {es : List (V × V × Nat)} {ms : List MapEntry} {j : Nat} {m : MapEntry}, ents L ρ es ms → ms[j]? = some m → ∃ p, es[j]? = some p ∧ rel L ρ p.1 m.key ∧ rel L ρ p.2.1 m.val ∧ m.born = p.2.2
  | [], ms, j, m, h, hj => by simp only [ents] at h; subst h; simp at hj
  | (k, v, b) :: es, ms, j, m, h, hj => by
    simp only [ents] at h
    obtain ⟨m', q, rfl, h1, h2, h3, h4⟩ := h
    cases j with
    | zero => simp at hj; subst hj; exact ⟨_, rfl, h1, h2, h3⟩
    | succ j => simpa using ents_get h4 (by simpa using hj)
theorem ents_set : ∀ {es : List (V × V × Nat)} {ms : List MapEntry} {j : Nat} {k v : V} {b : Nat} {m : MapEntry}, ents L ρ es ms → rel L ρ k m.key → rel L ρ v m.val → m.born = b → ents L ρ (es.set j (k, v, b)) (ms.set j m)
  | [], ms, j, k, v, b, m, h, _, _, _ => by simp only [ents] at h; subst h; simp [ents]
  | (k0, v0, b0) :: es, ms, j, k, v, b, m, h, hk, hv, hb => by
    simp only [ents] at h
    obtain ⟨m', q, rfl, h1, h2, h3, h4⟩ := h
    cases j with
    | zero => simp only [List.set_cons_zero, ents]; exact ⟨m, q, rfl, hk, hv, hb, h4⟩
    | succ j => simp only [List.set_cons_succ, ents]; exact ⟨m', _, rfl, h1, h2, h3, ents_set h4 hk hv hb⟩
theorem ents_push : ∀ {es : List (V × V × Nat)} {ms : List MapEntry} {k v : V} {b : Nat} {m : MapEntry}, ents L ρ es ms → rel L ρ k m.key → rel L ρ v m.val → m.born = b → ents L ρ (es ++ [(k, v, b)]) (ms ++ [m])
  | [], ms, k, v, b, m, h, hk, hv, hb => by simp only [ents] at h; subst h; simp only [List.nil_append, ents]; exact ⟨m, [], rfl, hk, hv, hb, rfl⟩
  | (k0, v0, b0) :: es, ms, k, v, b, m, h, hk, hv, hb => by
    simp only [ents] at h
    obtain ⟨m', q, rfl, h1, h2, h3, h4⟩ := h
    simp only [List.cons_append, ents]
    exact ⟨m', _, rfl, h1, h2, h3, ents_push h4 hk hv hb⟩
theorem ents_erase : ∀ {es : List (V × V × Nat)} {ms : List MapEntry} {j : Nat}, ents L ρ es ms → ents L ρ (es.eraseIdx j) (ms.eraseIdx j)
  | [], ms, j, h => by simp only [ents] at h; subst h; simp [ents]
  | (k0, v0, b0) :: es, ms, j, h => by
    simp only [ents] at h
    obtain ⟨m', q, rfl, h1, h2, h3, h4⟩ := h
    cases j with
    | zero => simpa using h4
    | succ j => simp only [List.eraseIdx_cons_succ, ents]; exact ⟨m', _, rfl, h1, h2, h3, ents_erase h4⟩
end

/-- A block that is a map becomes another one. -/
theorem map_upd {L : Nat → Prop} {ρ : Nat → Loc} {H : Nat → Option BO} {fr : Nat → Option Obj} {w : World} (hs : Sat L ρ H fr w.heap) {q : Nat} {es es' : List (V × V × Nat)} {c c' : Nat} {ms ms' : List MapEntry} (hq : H q = some (.mp es c)) (hb : w.heap[(ρ q).b]? = some (.map ms.toArray c))
    (he : ents L ρ es' ms') : (setObj (ρ q).b (.map ms'.toArray c')).run P w = .ok () { w with heap := w.heap.setIfInBounds (ρ q).b (.map ms'.toArray c') } ∧ Sat L ρ (updT H q (.mp es' c')) fr (w.heap.setIfInBounds (ρ q).b (.map ms'.toArray c')) ∧
      Frm w { w with heap := w.heap.setIfInBounds (ρ q).b (.map ms'.toArray c') } := by
  obtain ⟨g1, g2⟩ := MapKept.heap_set (w := w) (o' := .map ms'.toArray c') hb
  exact ⟨MapKept.run_setObj_map _ hb, hs.upd hq trivial (fun _ => trivial) ⟨ms', g1, he⟩ g2, ⟨rfl, rfl, rfl, by simp⟩⟩

theorem keyThatStays_same {d : TypeDesc} {x y : Value} (h : Instr.sameNow d x y = some true) (w : World) : (Instr.keyThatStays y x).run P w = .ok x w := by
  have hb : Instr.sameBits 10000 y x = true := by
    unfold Instr.sameNow at h
    split at h
    · split at h
      · rename_i hk; subst hk
        simp only [Option.some.injEq] at h
        have := of_decide_eq_true h
        subst this
        show (_ == _ && _ == _) = true
        simp
      · cases h
    · simp only [Option.some.injEq] at h
      have := (MapKept.bytes_beq _ _).1 h
      subst this
      show (_ == _) = true
      exact (MapKept.bytes_beq _ _).2 rfl
    · simp only [Option.some.injEq] at h
      have := beq_iff_eq.1 h
      subst this
      show (_ == _) = true
      simp
    · cases h
  simp [Instr.keyThatStays, hb]

theorem modify_list {ms : List MapEntry} {j : Nat} {m : MapEntry} {f : MapEntry → MapEntry} (hj : ms[j]? = some m) : ms.toArray.modify j f = (ms.set j (f m)).toArray := by
  apply Array.ext'
  apply List.ext_getElem?
  intro i
  simp only [Array.toList_modify, List.getElem?_modify, List.getElem?_set]
  by_cases h : j = i
  · subst h
    obtain ⟨hlt, hm⟩ := List.getElem?_eq_some_iff.1 hj
    simp [hlt, hm]
  · simp [h]

theorem hMapUpdate_ok (hT : TyOk P B) {t : Nat} {x i y : Operand} {κ : Hp → Option R} (hh : hMapUpdate B E h t x i y κ = some r) : ∃ h', κ h' = some r ∧ ∀ nk, HOk P E h nk (.mapUpdate t x i y) (.tup []) h' nk := by
  obtain ⟨m, h1, h2⟩ := opv_some (show opv E x _ = some r from hh)
  obtain ⟨k, h3, h4⟩ := opv_some h2
  obtain ⟨v, h5, h6⟩ := opv_some h4
  split at h6
  · rename_i kt et hmp
    have hu := hT.mp _ _ _ hmp
    obtain ⟨hk, h7⟩ := cond_some h6
    obtain ⟨d, hd, hik, hkey⟩ := keyOk_isKey hT hk
    obtain ⟨q, es, c, rfl, h8, h9⟩ := asMap_some h7
    rw [setM_eq] at h9
    cases hsl : setL k v c es with
    | none => rw [hsl] at h9; cases h9
    | some p =>
      rw [hsl] at h9
      simp only [Option.bind_some, natK_eq] at h9
      obtain ⟨h', h10, h11⟩ := setK_upd h9
      refine ⟨h', h10, fun nk => ⟨Nat.le_refl _, fun L ρ fr ev w ho hs hbd => ?_⟩⟩
      have hx := ho x (by simp [Op.operands]) _ h1
      have hi := ho i (by simp [Op.operands]) _ h3
      have hy := ho y (by simp [Op.operands]) _ h5
      simp only [rel] at hx
      obtain ⟨ms, hb, he⟩ := hs.obj q _ h8
      have ck := MapKept.run_checkKey (P := P) (w := w) hd (hik L ρ _ hi) false 9999
      have go : ∀ w', (Instr.mapUpdate t (ev x) (ev i) (ev y)).run P w = .ok () w' → Sat L ρ h'.get fr w'.heap → Frm w w' → ∃ n y' w' L' ρ', (∀ oo : Oper, oo.op = .mapUpdate t x i y → (execOp ev oo).run P w = .ok n w') ∧ (n = .value y' ∨ n = .skip ∧ y' = undef) ∧ Frm w w' ∧ Ext L ρ L' ρ' ∧ (∀ k, L' k → k < nk ∧ (L k ∨ nk ≤ k)) ∧ rel L' ρ' (.tup []) y' ∧ Sat L' ρ' h'.get fr w'.heap := by
        intro w' e1 e2 e3
        exact ⟨.skip, undef, w', L, ρ, fun oo e => by simp [execOp, e, e1], .inr ⟨rfl, rfl⟩, e3, Ext.refl _ _, same_bd hbd, by simp [rel, rels, undef], e2⟩
      rcases find_full hkey hi 0 he (.inl (setL_some (by rw [hsl]; rfl))) with ⟨e1, e2, _, _⟩ | ⟨j, m, v', b, e1, e2, e3, e4, e5, e6, e7, _, _⟩
      · have := e2 v c
        rw [hsl] at this; cases this
        obtain ⟨g1, g2, g3⟩ := map_upd (P := P) hs h8 hb (c' := c + 1) (ents_push he hi hy (m := { key := ev i, val := ev y, born := c }) rfl)
        refine go _ ?_ (by rw [h11]; exact g2) g3
        have fk := MapKept.run_findKey (P := P) (w := w) (kt := kt) hd e1
        simp only [Instr.mapUpdate, Sem.run_bind, run_underlying hu, Result.andThen_ok, hx.2, getObj_map hb, ck, fk]
        have : ms.toArray.push ({ key := ev i, val := ev y, born := c } : MapEntry) = (ms ++ [({ key := ev i, val := ev y, born := c } : MapEntry)]).toArray := by simp
        rw [this]; exact g1
      · have := e7 v c
        rw [hsl] at this; cases this
        obtain ⟨g1, g2, g3⟩ := map_upd (P := P) hs h8 hb (c' := c) (ents_set (j := j) he hi hy (m := { m with key := ev i, val := ev y }) e4)
        refine go _ ?_ (by rw [h11]; exact g2) g3
        have fk := MapKept.run_findKey (P := P) (w := w) (kt := kt) hd e1
        have kts := keyThatStays_same (P := P) e5 w
        have e2' : ms.toArray[j]? = some m := by simpa using e2
        simp only [Instr.mapUpdate, Sem.run_bind, run_underlying hu, Result.andThen_ok, hx.2, getObj_map hb, ck, fk, Nat.zero_add, e2', Option.map_some, Option.getD_some, kts]
        rw [modify_list e2]
        exact g1
  · cases h6

theorem hMapEntry_ok (hT : TyOk P B) {t : Nat} {x i : Operand} {κ : V → Hp → Option R} (hh : hMapEntry B E h t x i κ = some r) : ∃ u h', κ u h' = some r ∧ ∀ nk, HOk P E h nk (.mapEntry t x i) u h' nk := by
  obtain ⟨m, h1, h2⟩ := opv_some (show opv E x _ = some r from hh)
  obtain ⟨k, h3, h4⟩ := opv_some h2
  split at h4
  · rename_i kt et hmp
    have hu := hT.mp _ _ _ hmp
    obtain ⟨hk, h7⟩ := cond_some h4
    obtain ⟨d, hd, hik, hkey⟩ := keyOk_isKey hT hk
    obtain ⟨q, es, c, rfl, h8, h9⟩ := asMap_some h7
    obtain ⟨o, h10, h11⟩ := findM_split h9
    have pre : ∀ {L ρ fr} {ev : Operand → Value} {w : World}, (∀ z ∈ (Op.mapEntry t x i).operands.toList, Od L ρ E ev z) → Sat L ρ h.get fr w.heap → ∃ ms : List MapEntry, ev x = .map (some (ρ q).b) ∧ rel L ρ k (ev i) ∧ ents L ρ es ms ∧ w.heap[(ρ q).b]? = some (.map ms.toArray c) ∧
        (Instr.checkKey false 10000 kt (ev i)).run P w = .ok () w := by
      intro L ρ fr ev w ho hs
      have hx := ho x (by simp [Op.operands]) _ h1
      have hi := ho i (by simp [Op.operands]) _ h3
      simp only [rel] at hx
      obtain ⟨ms, hb, he⟩ := hs.obj q _ h8
      exact ⟨ms, hx.2, hi, he, hb, MapKept.run_checkKey (P := P) (w := w) hd (hik L ρ _ hi) false 9999⟩
    cases o with
    | some p =>
      obtain ⟨v, b⟩ := p
      simp only at h11
      rw [setM_eq] at h11
      cases hsl : setL k v c es with
      | none => rw [hsl] at h11; cases h11
      | some p =>
        rw [hsl] at h11
        simp only [Option.bind_some] at h11
        obtain ⟨h', h12, h13⟩ := setK_upd h11
        refine ⟨_, h', h12, fun nk => ⟨Nat.le_refl _, fun L ρ fr ev w ho hs hbd => ?_⟩⟩
        obtain ⟨ms, hx, hi, he, hb, ck⟩ := pre ho hs
        rcases find_full hkey hi 0 he (.inr (.inr (by rw [h10]; rfl))) with ⟨_, _, _, e4⟩ | ⟨j, m, v', b', e1, e2, e3, e4, e5, e6, e7, _, e9⟩
        · rw [h10] at e4; cases e4
        · rw [h10] at e9; cases e9
          have := e7 v c
          rw [hsl] at this; cases this
          obtain ⟨g1, g2, g3⟩ := map_upd (P := P) hs h8 hb (c' := c) (ents_set (j := j) he hi e3 (m := { m with key := ev i }) e4)
          have fk := MapKept.run_findKey (P := P) (w := w) (kt := kt) hd e1
          have kts := keyThatStays_same (P := P) e5 w
          have e2' : ms.toArray[j]? = some m := by simpa using e2
          have run : (Instr.mapEntry t (ev x) (ev i)).run P w = .ok (.tuple #[m.val, goInt m.born]) { w with heap := w.heap.setIfInBounds (ρ q).b (.map (ms.set j { m with key := ev i }).toArray c) } := by
            simp only [Instr.mapEntry, Sem.run_bind, run_underlying hu, Result.andThen_ok, hx, getObj_map hb, ck, fk, Nat.zero_add, e2', Option.map_some, Option.getD_some, kts]
            rw [modify_list e2, g1]
            rfl
          refine ⟨.value _, .tuple #[m.val, goInt m.born], _, L, ρ, fun oo e => ?_, .inl rfl, g3, Ext.refl _ _, same_bd hbd, ?_, by rw [h13]; exact g2⟩
          · simp only [execOp, e, Sem.run_bind, run, Result.andThen_ok]; rfl
          · simp only [rel]; exact ⟨[m.val, goInt m.born], rfl, rels_mk e3 (rels_mk (by simp only [rel, goInt]; rw [e4]; rfl) rels_mk0)⟩
    | none =>
      simp only at h11
      obtain ⟨z, zv, z1, z2, z3⟩ := zeroK_some hT h11
      rw [setM_eq] at z1
      cases hsl : setL k z c es with
      | none => rw [hsl] at z1; cases z1
      | some p =>
        rw [hsl] at z1
        simp only [Option.bind_some] at z1
        obtain ⟨h', h12, h13⟩ := setK_upd z1
        refine ⟨_, h', h12, fun nk => ⟨Nat.le_refl _, fun L ρ fr ev w ho hs hbd => ?_⟩⟩
        obtain ⟨ms, hx, hi, he, hb, ck⟩ := pre ho hs
        rcases find_full hkey hi 0 he (.inr (.inr (by rw [h10]; rfl))) with ⟨e1, e2, _, _⟩ | ⟨j, m, v', b', _, _, _, _, _, _, _, _, e9⟩
        · have := e2 z c
          rw [hsl] at this; cases this
          obtain ⟨g1, g2, g3⟩ := map_upd (P := P) hs h8 hb (c' := c + 1) (ents_push he hi (z2 L ρ) (m := { key := ev i, val := zv, born := c }) rfl)
          have fk := MapKept.run_findKey (P := P) (w := w) (kt := kt) hd e1
          have hp : ms.toArray.push ({ key := ev i, val := zv, born := c } : MapEntry) = (ms ++ [({ key := ev i, val := zv, born := c } : MapEntry)]).toArray := by simp
          have run : (Instr.mapEntry t (ev x) (ev i)).run P w = .ok (.tuple #[zv, goInt c]) { w with heap := w.heap.setIfInBounds (ρ q).b (.map (ms ++ [({ key := ev i, val := zv, born := c } : MapEntry)]).toArray (c + 1)) } := by
            simp only [Instr.mapEntry, Sem.run_bind, run_underlying hu, Result.andThen_ok, hx, getObj_map hb, ck, fk, z3 w, hp, g1]
            rfl
          refine ⟨.value _, .tuple #[zv, goInt c], _, L, ρ, fun oo e => ?_, .inl rfl, g3, Ext.refl _ _, same_bd hbd, ?_, by rw [h13]; exact g2⟩
          · simp only [execOp, e, Sem.run_bind, run, Result.andThen_ok]; rfl
          · simp only [rel]; exact ⟨[zv, goInt c], rfl, rels_mk (z2 L ρ) (rels_mk (by simp only [rel, goInt]; rfl) rels_mk0)⟩
        · rw [h10] at e9; cases e9
  · cases h4

theorem bornM_some {v : V} {n : Nat} : ∀ {es : List (V × V × Nat)} {κ : List (V × V × Nat) → Option R}, bornM v n es κ = some r → ∃ j a u, κ (es.set j (a, v, n)) = some r ∧ es[j]? = some (a, u, n) ∧ ∀ i p, i < j → es[i]? = some p → p.2.2 ≠ n
  | [], κ, h => by simp [bornM] at h
  | (a, u, b) :: es, κ, h => by
    simp only [bornM] at h
    cases hb : Nat.beq b n with
    | true => rw [hb] at h; have := nat_beq hb; subst this; exact ⟨0, a, u, h, rfl, fun i p hi => by omega⟩
    | false =>
      rw [hb] at h
      obtain ⟨j, a', u', h1, h2, h3⟩ := bornM_some (show bornM v n es _ = some r from h)
      refine ⟨j + 1, a', u', h1, by simpa using h2, fun i p hi hp => ?_⟩
      cases i with
      | zero => simp at hp; subst hp; exact nat_beq_ne hb
      | succ i => exact h3 i p (by omega) (by simpa using hp)

theorem hEntryStore_ok {t : Nat} {x i y : Operand} {κ : Hp → Option R} (hh : hEntryStore E h x i y κ = some r) : ∃ h', κ h' = some r ∧ ∀ nk, HOk P E h nk (.entryStore t x i y) (.tup []) h' nk := by
  obtain ⟨m, h1, h2⟩ := opv_some (show opv E x _ = some r from hh)
  obtain ⟨k, h3, h4⟩ := opv_some h2
  obtain ⟨v, h5, h6⟩ := opv_some h4
  obtain ⟨q, es, c, rfl, h8, h9⟩ := asMap_some h6
  split at h9
  · rename_i ik n
    obtain ⟨j, a, u, h10, h11, h12⟩ := bornM_some h9
    obtain ⟨h', h13, h14⟩ := setK_upd h10
    refine ⟨h', h13, fun nk => ⟨Nat.le_refl _, fun L ρ fr ev w ho hs hbd => ?_⟩⟩
    have hx := ho x (by simp [Op.operands]) _ h1
    have hi := od_int (ho i (by simp [Op.operands])) h3
    have hy := ho y (by simp [Op.operands]) _ h5
    simp only [rel] at hx
    obtain ⟨ms, hb, he⟩ := hs.obj q _ h8
    have hlen := ents_length he
    have hj := (List.getElem?_eq_some_iff.1 h11).1
    obtain ⟨m, hm⟩ : ∃ m, ms[j]? = some m := ⟨ms[j]'(by omega), by simp⟩
    obtain ⟨p, p1, p2, p3, p4⟩ := ents_get he hm
    rw [h11] at p1; cases p1
    simp only at p2 p3 p4
    have hf : ms.toArray.findIdx? (fun e => (e.born : Int) == (n : Int)) = some j := by
      rw [List.findIdx?_toArray]
      rw [List.findIdx?_eq_some_iff_getElem]
      refine ⟨by omega, ?_, fun i hi => ?_⟩
      · have := (List.getElem?_eq_some_iff.1 hm).2
        rw [this, p4]; simp
      · have hil : i < ms.length := by omega
        obtain ⟨p', q1, q2, q3, q4⟩ := ents_get he (List.getElem?_eq_getElem hil)
        have := h12 i p' hi q1
        rw [q4]; simp only [beq_iff_eq, Bool.not_eq_true]; simp; omega
    obtain ⟨g1, g2, g3⟩ := map_upd (P := P) hs h8 hb (c' := c) (ents_set (j := j) he p2 hy (m := { m with val := ev y }) p4)
    have run : (Instr.entryStore t (ev x) (ev i) (ev y)).run P w = .ok () { w with heap := w.heap.setIfInBounds (ρ q).b (.map (ms.set j { m with val := ev y }).toArray c) } := by
      simp only [Instr.entryStore, Sem.run_bind, hx.2, getObj_map hb, Result.andThen_ok, hi, asInt, asIntOf, Sem.run_pure]
      rw [show ((Int.ofNat n : Int)) = (n : Int) from rfl, hf]
      simp only
      rw [modify_list hm, g1]
    refine ⟨.skip, undef, _, L, ρ, fun oo e => ?_, .inr ⟨rfl, rfl⟩, g3, Ext.refl _ _, same_bd hbd, by simp [rel, rels, undef], by rw [h14]; exact g2⟩
    simp only [execOp, e, Sem.run_bind, run, Result.andThen_ok]; rfl
  · cases h9

theorem hRange_ok (hT : TyOk P B) {nk t : Nat} {x : Operand} {κ : V → Hp → Nat → Option R} (hh : hRange B E h nk t x κ = some r) : ∃ u h' nk', κ u h' nk' = some r ∧ HOk P E h nk (.range t x) u h' nk' := by
  obtain ⟨m, h1, h2⟩ := opv_some (show opv E x _ = some r from hh)
  split at h2
  · rename_i p hmp
    obtain ⟨kt, et⟩ := p
    have hu := hT.mp _ _ _ hmp
    obtain ⟨q, es, c, rfl, h3, h4⟩ := asMap_some h2
    obtain ⟨h', h5, h6⟩ := newK_some h4
    refine ⟨_, h', _, h5, Nat.le_succ _, fun L ρ fr ev w ho hs hbd => ?_⟩
    have hnk : ¬ L nk := fun hl => Nat.lt_irrefl _ (hbd nk hl)
    have hx := ho x (by simp [Op.operands]) _ h1
    simp only [rel] at hx
    obtain ⟨ms, hb, he⟩ := hs.obj q _ h3
    have sa := hs.alloc nk hnk { b := w.heap.size } (.it q c [] c) (h' := (pushed w (.mapIter (some (ρ q).b) c #[] c)).heap) (pushed_old w _) (fun _ => Nat.le_refl _) ⟨hx.1, rfl, pushed_new w _⟩
    have run : (Instr.range t (ev x)).run P w = .ok (.pointer (some ⟨w.heap.size, 0, none⟩)) (pushed w (.mapIter (some (ρ q).b) c #[] c)) := by
      simp only [Instr.range, Sem.run_bind, run_underlying hu, Result.andThen_ok, hx.2, getObj_map hb, Sem.run_pure]
      simp [newObj, Sem.run, pushed]
    refine ⟨.value _, .pointer (some ⟨w.heap.size, 0, none⟩), _, _, _, fun oo e => ?_, .inl rfl, pushed_frm w _, updρ_ext hnk _, fun k hk => ?_, ?_, by rw [h6]; exact sa⟩
    · simp only [execOp, e, Sem.run_bind, run, Result.andThen_ok]; rfl
    · rcases hk with hk | rfl
      · exact ⟨Nat.lt_succ_of_lt (hbd k hk), .inl hk⟩
      · exact ⟨Nat.lt_succ_self _, .inr (Nat.le_refl _)⟩
    · simp [rel, updρ]
  · cases h2
end
end Go.Kn
