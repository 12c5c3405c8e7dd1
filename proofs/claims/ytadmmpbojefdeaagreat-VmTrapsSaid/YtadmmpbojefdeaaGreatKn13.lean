/-
  The engine is right: operations that change the heap (2): iterators, deletions, copies, clear, append. Conditions: none.
-/
import Derived.Test.YtadmmpbojefdeaaGreatKn12
namespace Go.Kn
open Go
variable {R : Type} {r : R}

section
variable {L : Nat → Prop} {ρ : Nat → Loc} {H : Nat → Option BO} {fr : Nat → Option Obj} {h h' : Array Obj}

/-- A change of a block that nothing here owns. -/
theorem Sat.off (hs : Sat L ρ H fr h) (b : Nat) (hfr : fr b = none) (hown : ∀ t o, H t = some o → owns (ρ t) o → (ρ t).b ≠ b) (hne : ∀ c, c ≠ b → h'[c]? = h[c]?) : Sat L ρ H fr h' := by
  refine ⟨fun t o hH => ?_, hs.inj, fun c o hc => ?_, hs.dis, hs.live⟩
  · exact (hs.obj t o hH).keep (Ext.refl _ _) (fun hw => hne _ (hown t o hH hw))
  · rw [hne c (fun e => by subst e; rw [hfr] at hc; cases hc)]; exact hs.frm c o hc

/-- Cells of a block are written. -/
theorem store_raw {P : Program} {g o t : Nat} {f : Nat × Nat} : ∀ (vs : List Value) (i : Nat) (cur : List Value) (w : World), w.heap[g]? = some (.cells cur.toArray t f) → Thaw f cur.length → o + i + vs.length ≤ cur.length → (∀ v ∈ vs, v.oneCell' = true) →
    ∃ w', (storeCells ⟨g, o, none⟩ vs i).run P w = .ok () w' ∧ w'.heap[g]? = some (.cells (splice cur (o + i) vs).toArray t f) ∧ (∀ b, b ≠ g → w'.heap[b]? = w.heap[b]?) ∧ Frm w w'
  | [], i, cur, w, hg, _, _, _ => ⟨w, rfl, by simpa [splice] using hg, fun _ _ => rfl, Frm.refl w⟩
  | v :: vs, i, cur, w, hg, hf, hl, h1 => by
    simp only [List.length_cons] at hl
    have hc : w.cell? ⟨g, o + i, none⟩ = some (cur[o + i]'(by omega)) := by
      simp [World.cell?, hg]
    have hfz : w.frozen? ⟨g, o + i, none⟩ = false := by
      have := hf (o + i) (by omega)
      obtain ⟨lo, hi⟩ := f
      simp only [World.frozen?, hg]
      simpa using this
    have hrun : (store ((⟨g, o, none⟩ : Addr).add i) v).run P w = .ok () (w.setCell ⟨g, o + i, none⟩ v) := by
      rw [add_lit, run_store P w _ v _ (h1 v (by simp)), hc]
      simp [hfz]
    have hg' := heap_setCell w g (o + i) _ t f v hg
    simp only [List.setIfInBounds_toArray] at hg'
    obtain ⟨w', g1, g2, g3, g4⟩ := store_raw (P := P) (o := o) vs (i + 1) (cur.set (o + i) v) _ hg' (by simpa using hf) (by rw [List.length_set]; omega) (fun u hu => h1 u (by simp [hu]))
    refine ⟨w', ?_, by simpa [splice, Nat.add_assoc] using g2, fun b hb => by rw [g3 b hb]; exact heap_setCell_ne _ _ _ _ hb, Frm.trans (⟨rfl, rfl, rfl, by simp [World.setCell]⟩ : Frm w (w.setCell _ v)) g4⟩
    simp only [storeCells, Sem.run_bind, hrun, Result.andThen_ok, g1]

theorem allOne_cells : ∀ {vs : List V} {xs : List Value}, allOne vs = true → rels L ρ vs xs → ∀ x ∈ xs, x.oneCell' = true
  | [], xs, _, h, x, hx => by rw [rels_nil h] at hx; cases hx
  | v :: vs, xs, ha, h, x, hx => by
    obtain ⟨y, q, rfl, h1, h2⟩ := rels_cons h
    simp only [allOne, Bool.and_eq_true] at ha
    simp only [List.mem_cons] at hx
    rcases hx with rfl | hx
    · exact oneV_one ha.1 h1
    · exact allOne_cells ha.2 h2 x hx
end

theorem splice_eq {α : Type} : ∀ (us cs : List α) (i : Nat), i + us.length ≤ cs.length → splice cs i us = cs.take i ++ us ++ cs.drop (i + us.length)
  | [], cs, i, h => by simp [splice]
  | u :: us, cs, i, h => by
    simp only [List.length_cons] at h
    simp only [splice]
    rw [splice_eq us (cs.set i u) (i + 1) (by rw [List.length_set]; omega)]
    rw [List.take_set, List.take_succ_eq_append_getElem (by omega), List.set_append_right _ _ (by simp; omega)]
    rw [List.drop_set_of_lt (by omega)]
    simp [Nat.min_eq_left (show i ≤ cs.length by omega), Nat.add_assoc, Nat.add_comm 1]

section
variable {P : Program} {B : Tb} {E : En} {h : Hp}

/-- What an operation must do that hands back nothing, or a value, and keeps all names. -/
theorem HOk.keep {op : Op} {v : V} {h' : Hp} (hk : ∀ L ρ fr (ev : Operand → Value) (w : World), (∀ x ∈ op.operands.toList, Od L ρ E ev x) → Sat L ρ h.get fr w.heap → ∃ n y w', (∀ oo : Oper, oo.op = op → (execOp ev oo).run P w = .ok n w') ∧ (n = .value y ∨ n = .skip ∧ y = undef) ∧ Frm w w' ∧ rel L ρ v y ∧ Sat L ρ h'.get fr w'.heap) (nk : Nat) : HOk P E h nk op v h' nk :=
  ⟨Nat.le_refl _, fun L ρ fr ev w ho hs hbd => let ⟨n, y, w', h1, h2, h3, h4, h5⟩ := hk L ρ fr ev w ho hs; ⟨n, y, w', L, ρ, h1, h2, h3, Ext.refl _ _, same_bd hbd, h4, h5⟩⟩

theorem hNext_ok {x : Operand} {κ : V → Hp → Option R} (hh : hNext E h x κ = some r) : ∃ u h', κ u h' = some r ∧ ∀ nk, HOk P E h nk (.next x false) u h' nk := by
  obtain ⟨v, h1, h2⟩ := opv_some (show opv E x _ = some r from hh)
  obtain ⟨k, o, rfl, h3⟩ := asPtr_some h2
  obtain ⟨ho, h4⟩ := cond_some h3
  have := nat_beq ho; subst this
  have over : ∀ {ev : Operand → Value} {w : World}, (∀ (ty : TypeId), (Instr.next (ev x) false ty).run P w = .ok (.tuple #[.bool false]) w) → ∀ oo : Oper, oo.op = .next x false → (execOp ev oo).run P w = .ok (.value (.tuple #[.bool false])) w := by
    intro ev w e oo eo
    simp only [execOp, eo, Sem.run_bind, e, Result.andThen_ok]; rfl
  split at h4
  · rename_i q since seen stepped hk
    split at h4
    · rename_i c hq
      refine ⟨_, h, h4, HOk.keep fun L ρ fr ev w ho hs => ⟨_, .tuple #[.bool false], w, over (fun ty => ?_), .inl rfl, Frm.refl w, by simp only [rel]; exact ⟨[.bool false], rfl, rels_mk (by simp [rel]) rels_mk0⟩, hs⟩⟩
      have hx := ho x (by simp [Op.operands]) _ h1
      simp only [rel] at hx
      obtain ⟨_, hbase, hi⟩ := hs.obj k _ hk
      obtain ⟨ms, hb, he⟩ := hs.obj q _ hq
      simp only [ents] at he
      subst he
      simp [Instr.next, hx.2, hbase, getObj_iter hi, getObj_map hb, choose, Sem.run, Question.forced]
    · rename_i a b n c hq
      split at h4
      · obtain ⟨hc, h5⟩ := cond_some h4
        have hlt : n < since := by simpa [Nat.blt_eq] using hc
        obtain ⟨h', h6, h7⟩ := setK_upd h5
        refine ⟨_, h', h6, HOk.keep fun L ρ fr ev w ho hs => ?_⟩
        have hx := ho x (by simp [Op.operands]) _ h1
        simp only [rel] at hx
        obtain ⟨hq', hbase, hi⟩ := hs.obj k _ hk
        obtain ⟨ms, hb, he⟩ := hs.obj q _ hq
        simp only [ents] at he
        obtain ⟨m, q', rfl, g1, g2, g3, g4⟩ := he
        subst g4
        have e1 := MapKept.heap_set (w := w) (o' := .mapIter (some (ρ q).b) since #[n] c) hi
        refine ⟨_, .tuple #[.bool true, m.key, m.val], { w with heap := w.heap.setIfInBounds (ρ k).b (.mapIter (some (ρ q).b) since #[n] c) }, fun oo eo => ?_, .inl rfl, ⟨rfl, rfl, rfl, by simp⟩, by simp only [rel]; exact ⟨[.bool true, m.key, m.val], rfl, rels_mk (by simp [rel]) (rels_mk g1 (rels_mk g2 rels_mk0))⟩, ?_⟩
        · have hset : (setObj (ρ k).b (.mapIter (some (ρ q).b) since #[n] c)).run P w = .ok () { w with heap := w.heap.setIfInBounds (ρ k).b (.mapIter (some (ρ q).b) since #[n] c) } := by
            simp [setObj, Sem.run, hi]
          have hrun : (Instr.next (ev x) false oo.type).run P w = .ok (.tuple #[.bool true, m.key, m.val]) { w with heap := w.heap.setIfInBounds (ρ k).b (.mapIter (some (ρ q).b) since #[n] c) } := by
            simp [Instr.next, hx.2, hbase, getObj_iter hi, getObj_map hb, choose, Sem.run, Question.forced, g3, hlt, Nat.not_le.2 hlt, hset]
          simp only [execOp, eo, Sem.run_bind, hrun, Result.andThen_ok]; rfl
        · rw [h7]
          exact hs.upd hk trivial (fun _ => trivial) ⟨hq', hbase, e1.1⟩ e1.2
      · rename_i s
        obtain ⟨hc, h5⟩ := cond_some h4
        obtain ⟨hn, hlt⟩ := and_split hc
        have hlt : n < stepped := by simpa [Nat.blt_eq] using hlt
        have := nat_beq hn; subst this
        refine ⟨_, h, h5, HOk.keep fun L ρ fr ev w ho hs => ⟨_, .tuple #[.bool false], w, over (fun ty => ?_), .inl rfl, Frm.refl w, by simp only [rel]; exact ⟨[.bool false], rfl, rels_mk (by simp [rel]) rels_mk0⟩, hs⟩⟩
        have hx := ho x (by simp [Op.operands]) _ h1
        simp only [rel] at hx
        obtain ⟨_, hbase, hi⟩ := hs.obj k _ hk
        obtain ⟨ms, hb, he⟩ := hs.obj q _ hq
        simp only [ents] at he
        obtain ⟨m, q', rfl, g1, g2, g3, g4⟩ := he
        subst g4
        simp [Instr.next, hx.2, hbase, getObj_iter hi, getObj_map hb, choose, Sem.run, Question.forced, g3, Nat.not_le.2 hlt]
      · cases h4
    · cases h4
  · cases h4

theorem hDelete_ok (hT : TyOk P B) {ats : List TypeId} {t : Nat} {x y : Operand} {κ : Hp → Option R} (hh : hDelete B E h x y t κ = some r) : ∃ h', κ h' = some r ∧ ∀ nk, HOk P E h nk (.call ⟨.builtin .delete, #[x, y], (t :: ats).toArray⟩) (.tup []) h' nk := by
  obtain ⟨m, h1, h2⟩ := opv_some (show opv E x _ = some r from hh)
  obtain ⟨k, h3, h4⟩ := opv_some h2
  split at h4
  · rename_i kt et hmp
    have hu := hT.mp _ _ _ hmp
    obtain ⟨hk, h7⟩ := cond_some h4
    obtain ⟨d, hd, hik, hkey⟩ := keyOk_isKey hT hk
    obtain ⟨q, es, c, rfl, h8, h9⟩ := asMap_some h7
    rw [delM_eq] at h9
    cases hsl : delL k es with
    | none => rw [hsl] at h9; cases h9
    | some es' =>
      rw [hsl] at h9
      simp only [Option.bind_some] at h9
      obtain ⟨h', h10, h11⟩ := setK_upd h9
      refine ⟨h', h10, HOk.keep fun L ρ fr ev w ho hs => ?_⟩
      have hx := ho x (by simp [Op.operands, Call.operands]) _ h1
      have hi := ho y (by simp [Op.operands, Call.operands]) _ h3
      simp only [rel] at hx
      obtain ⟨ms, hb, he⟩ := hs.obj q _ h8
      have ck := MapKept.run_checkKey (P := P) (w := w) hd (hik L ρ _ hi) ms.toArray.isEmpty 9999
      have go : ∀ w', (∀ ty, (Builtin.delete_ (t :: ats).toArray ty #[ev x, ev y]).run P w = .ok (.tuple #[]) w') → ∀ oo : Oper, oo.op = .call ⟨.builtin .delete, #[x, y], (t :: ats).toArray⟩ → (execOp ev oo).run P w = .ok (.value (.tuple #[])) w' := by
        intro w' e oo eo
        have := e oo.type
        simp [execOp, eo, resolve, invoke, builtin, this]
      rcases find_full hkey hi 0 he (.inr (.inl (by rw [hsl]; rfl))) with ⟨e1, _, e3, _⟩ | ⟨j, m, v', b, e1, e2, _, _, _, e6, _, e8, _⟩
      · rw [hsl] at e3; cases e3
        obtain ⟨g1, g2, g3⟩ := map_upd (P := P) hs h8 hb (c' := c) he
        have fk := MapKept.run_findKey (P := P) (w := w) (kt := kt) hd e1
        refine ⟨_, .tuple #[], _, go _ (fun ty => ?_), .inl rfl, g3, by simp [rel, rels], by rw [h11]; exact g2⟩
        simp only [Builtin.delete_, List.getElem?_toArray, List.getElem?_cons_zero, List.getElem?_cons_succ, Sem.run_bind, run_underlying hu, Result.andThen_ok, hx.2, getObj_map hb, ck, fk, g1]
        rfl
      · rw [hsl] at e8; cases e8
        obtain ⟨g1, g2, g3⟩ := map_upd (P := P) hs h8 hb (c' := c) (ents_erase (j := j) he)
        have fk := MapKept.run_findKey (P := P) (w := w) (kt := kt) hd e1
        have her : ms.toArray.eraseIdxIfInBounds j = (ms.eraseIdx j).toArray := by
          have hj : j < ms.length := (List.getElem?_eq_some_iff.1 e2).1
          simp [Array.eraseIdxIfInBounds, hj]
        refine ⟨_, .tuple #[], _, go _ (fun ty => ?_), .inl rfl, g3, by simp [rel, rels], by rw [h11]; exact g2⟩
        simp only [Builtin.delete_, List.getElem?_toArray, List.getElem?_cons_zero, List.getElem?_cons_succ, Sem.run_bind, run_underlying hu, Result.andThen_ok, hx.2, getObj_map hb, ck, fk, Nat.zero_add, her, g1]
        rfl
  · cases h4
end
end Go.Kn
