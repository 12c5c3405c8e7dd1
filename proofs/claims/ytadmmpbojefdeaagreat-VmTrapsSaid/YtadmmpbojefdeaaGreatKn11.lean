/-
  The engine is right: operations that make an object. Conditions: none.
-/
import Derived.Test.YtadmmpbojefdeaaGreatKn10
import Derived.IntWalk
namespace Go.Kn
open Go
variable {R : Type} {r : R}

/-- An operation makes an object, and looks at no other one. -/
def AOk (P : Program) (E : En) (op : Op) (nk : Nat) (v : V) (o : BO) : Prop := ∀ L ρ (ev : Operand → Value) (w : World), ¬ L nk → (∀ x ∈ op.operands.toList, Od L ρ E ev x) → ∃ y w' lc, (∀ oo : Oper, oo.op = op → (execOp ev oo).run P w = .ok (.value y) w') ∧ Frm w w' ∧
  (∀ b, b < w.heap.size → w'.heap[b]? = w.heap[b]?) ∧ (owns lc o → w.heap.size ≤ lc.b) ∧ ObjSat L ρ lc w'.heap o ∧ rel (fun k => L k ∨ k = nk) (updρ ρ nk lc) v y

def pushed (w : World) (o : Obj) : World := { w with heap := w.heap.push o }

theorem pushed_frm (w : World) (o : Obj) : Frm w (pushed w o) := ⟨rfl, rfl, rfl, by simp [pushed]⟩
theorem pushed_old (w : World) (o : Obj) (b : Nat) (hb : b < w.heap.size) : (pushed w o).heap[b]? = w.heap[b]? := by
  show (w.heap.push o)[b]? = _
  rw [Array.getElem?_push, if_neg (by omega)]
theorem pushed_new (w : World) (o : Obj) : (pushed w o).heap[w.heap.size]? = some o := by
  show (w.heap.push o)[w.heap.size]? = _
  simp

theorem run_newRow {P : Program} (t : Nat) (cs : Array Value) (w : World) : (newRow t cs).run P w = .ok ⟨w.heap.size, 0, none⟩ (pushed w (.cells cs t (0, 0))) := by
  simp [newRow, newObj, Sem.run, pushed]

section
variable {P : Program} {B : Tb} {E : En}

/-- A row of cells, from its first one on. -/
theorem row_ok {L : Nat → Prop} {ρ : Nat → Loc} {cs : List V} {xs : List Value} (hr : rels L ρ cs xs) (t : Nat) (w : World) : ObjSat L ρ { b := w.heap.size } (pushed w (.cells xs.toArray t (0, 0))).heap (.o none cs t) :=
  ⟨xs, (0, 0), pushed_new _ _, Thaw.none _, rfl, hr⟩

theorem aAlloc_ok (hT : TyOk P B) {t nk : Nat} {κ : V → BO → Option R} (hh : aAlloc B t nk κ = some r) : ∃ v o, κ v o = some r ∧ AOk P E (.alloc t) nk v o := by
  obtain ⟨cs, i, z, d, xs, h1, h2, h3, h4, h5, h6, h7, _⟩ := zerosK_some hT hh
  refine ⟨_, _, h1, fun L ρ ev w hnk _ => ⟨.pointer (some ⟨w.heap.size, 0, none⟩), _, _, fun oo e => ?_, pushed_frm w _, pushed_old w _, fun _ => Nat.le_refl _, row_ok (h7 L ρ) t w, ?_⟩⟩
  · simp only [execOp, e, Instr.alloc, Sem.run_bind, run_zeroValue h2 h3, Result.andThen_ok, newVar, run_newRow, h6]
    rfl
  · simp [rel, updρ]

theorem aBox_ok {t nk : Nat} {x : Operand} {κ : V → BO → Option R} (hh : aBox E t x nk κ = some r) : ∃ v o, κ v o = some r ∧ AOk P E (.box t x) nk v o := by
  obtain ⟨v, h1, h2⟩ := opv_some (show opv E x _ = some r from hh)
  obtain ⟨cs, h3, h4⟩ := cellsK_some h2
  refine ⟨_, _, h3, fun L ρ ev w hnk ho => ?_⟩
  obtain ⟨xs, e1, e2⟩ := h4 L ρ _ (ho x (by simp [Op.operands]) v h1)
  refine ⟨.pointer (some ⟨w.heap.size, 0, none⟩), _, _, fun oo e => ?_, pushed_frm w _, pushed_old w _, fun _ => Nat.le_refl _, row_ok e2 t w, ?_⟩
  · simp only [execOp, e, Instr.box, Sem.run_bind, newVar, run_newRow, e1, Result.andThen_ok]
    rfl
  · simp [rel, updρ]

theorem rep_get (zs : List Value) : ∀ (n i : Nat), i < n * zs.length → (List.replicate n zs).flatten[i]? = zs[i % zs.length]?
  | 0, i, h => by omega
  | n + 1, i, h => by
    rw [List.replicate_succ, List.flatten_cons]
    by_cases hi : i < zs.length
    · rw [List.getElem?_append_left hi, Nat.mod_eq_of_lt hi]
    · rw [List.getElem?_append_right (by omega)]
      have hl : i - zs.length < n * zs.length := by rw [Nat.succ_mul] at h; omega
      rw [rep_get zs n _ hl]
      congr 1
      exact (Nat.mod_eq_sub_mod (by omega)).symm

theorem rep_length (zs : List Value) (n : Nat) : (List.replicate n zs).flatten.length = n * zs.length := by simp [List.length_flatten]

theorem range_mod (zs : List Value) (n : Nat) : ((Array.range (n * zs.length)).map fun i => zs.toArray[i % zs.toArray.size]!) = (List.replicate n zs).flatten.toArray := by
  apply Array.ext'
  apply List.ext_getElem?
  intro i
  simp only [Array.toList_map, Array.toList_range, List.getElem?_map]
  by_cases hi : i < n * zs.length
  · rw [rep_get zs n i hi, List.getElem?_range hi]
    have hp : 0 < zs.length := by
      rcases Nat.eq_zero_or_pos zs.length with h | h
      · rw [h] at hi; omega
      · exact h
    have hm := Nat.mod_lt i hp
    simp [hm]
  · rw [List.getElem?_eq_none (l := (List.replicate n zs).flatten) (by rw [rep_length]; omega)]
    rw [List.getElem?_eq_none (by simp; omega)]
    rfl

theorem zeros_of (hT : TyOk P B) {t es et by_ : Nat} (hsl : B.sl t = some (es, et, by_)) {κ : List V → Option R} (hh : zerosK B et κ = some r) : ∃ cs i z xs, κ cs = some r ∧ P.underlying t = some (.slice et) ∧ P.info? et = some i ∧ i.size = es ∧ es ≠ 0 ∧ i.bytes = by_ ∧ i.zero = some z ∧ z.cells = xs.toArray ∧ xs.length = es ∧
    (∀ L ρ, rels L ρ cs xs) := by
  obtain ⟨cs, i, z, d, xs, h1, h2, h3, h4, h5, h6, h7, _⟩ := zerosK_some hT hh
  obtain ⟨i', z', g1, g2, g3, g4, g5, g6, g7⟩ := hT.sl _ _ _ _ hsl
  rw [h2] at g2; cases g2
  rw [h3] at g6; cases g6
  rw [h6] at g7
  exact ⟨cs, i, z, xs, h1, g1, h2, g3, g4, g5, h3, h6, by simpa using g7, h7⟩

theorem aBuildSlice_ok (hT : TyOk P B) {t len nk : Nat} {ps : List (Nat × Operand)} {κ : V → BO → Option R} (hh : aBuildSlice B E t len ps nk κ = some r) : ∃ v o, κ v o = some r ∧ AOk P E (.buildSlice t len ps.toArray) nk v o := by
  unfold aBuildSlice at hh
  split at hh
  · rename_i es et by_ hsl
    obtain ⟨hb, hh⟩ := cond_some hh
    have hb : len * es ≤ 16777216 := Nat.le_of_ble_eq_true hb
    obtain ⟨cs, i, z, xs, h1, a1, a2, a3, a4, a5, a6, a7, a8, a9⟩ := zeros_of hT hsl hh
    rw [repK_eq] at h1
    obtain ⟨cs', h2, h3⟩ := partsA_some h1
    refine ⟨_, _, h2, fun L ρ ev w hnk ho => ?_⟩
    obtain ⟨xs', e1, e2⟩ := h3 L ρ ev _ (fun p hp => ho p.2 (by simp only [Op.operands]; simpa using ⟨p.1, hp⟩)) (rels_flatten (a9 L ρ) len)
    refine ⟨.slice (some ⟨w.heap.size, 0, none⟩) len len, _, _, fun oo e => ?_, pushed_frm w _, pushed_old w _, fun _ => Nat.le_refl _, row_ok e1 et w, ?_⟩
    · simp only [execOp, e, Instr.buildSlice, Sem.run_bind, run_underlying a1, run_sizeOf a2, a3, Result.andThen_ok]
      rw [if_neg (by show ¬ len * es > 2 ^ 24; omega)]
      have e3 : (ps.toArray.map fun (x : Nat × Operand) => (x.1, ev x.2)).toList = ps.map fun (i, x) => (i, ev x) := by simp
      by_cases h0 : len * es = 0
      · have : len = 0 := by rcases Nat.mul_eq_zero.1 h0 with h | h; exact h; exact absurd h a4
        subst this
        rw [if_pos h0]
        simp only [Sem.run_bind, Sem.run_pure, Result.andThen_ok, Nat.zero_mul]
        simp only [List.replicate_zero, List.flatten_nil] at e2
        have e4 : (Array.range 0).map (fun i => (#[] : Array Value)[i % (#[] : Array Value).size]!) = #[] := by simp
        rw [e4, e3, e2]
        simp only [Sem.run_bind, run_newRow, Result.andThen_ok]
        rfl
      · rw [if_neg h0]
        simp only [Sem.run_bind, run_zeroValue a2 a6, Sem.run_pure, Result.andThen_ok, a7]
        have e4 := range_mod xs len
        rw [a8] at e4
        rw [e4, e3, e2]
        simp only [Sem.run_bind, run_newRow, Result.andThen_ok]
        rfl
    · simp [rel, updρ]
  · cases hh

theorem aMakeSlice_ok (hT : TyOk P B) {t nk : Nat} {l c : Operand} {κ : V → BO → Option R} (hh : aMakeSlice B E t l c nk κ = some r) : ∃ v o, κ v o = some r ∧ AOk P E (.makeSlice t l c) nk v o := by
  obtain ⟨n, k1, h1, h2⟩ := ix_some (show ix E l _ = some r from hh)
  obtain ⟨m, k2, h3, h4⟩ := ix_some h1
  split at h3
  · rename_i es et by_ hsl
    obtain ⟨hb, h5⟩ := cond_some h3
    obtain ⟨hb, hm⟩ := and_split hb
    obtain ⟨hnm, hby⟩ := and_split hb
    have hnm := Nat.le_of_ble_eq_true hnm
    have hby : by_ * m ≤ 1099511627776 := Nat.le_of_ble_eq_true hby
    have hm : m ≤ 1099511627776 := Nat.le_of_ble_eq_true hm
    obtain ⟨cs, i, z, xs, h6, a1, a2, a3, a4, a5, a6, a7, a8, a9⟩ := zeros_of hT hsl h5
    rw [repK_eq] at h6
    refine ⟨_, _, h6, fun L ρ ev w hnk ho => ?_⟩
    refine ⟨.slice (some ⟨w.heap.size, 0, none⟩) n m, _, _, fun oo e => ?_, pushed_frm w _, pushed_old w _, fun _ => Nat.le_refl _, row_ok (rels_flatten (a9 L ρ) m) et w, ?_⟩
    · have e1 := od_int (ho l (by simp [Op.operands])) h2
      have e2 := od_int (ho c (by simp [Op.operands])) h4
      have w1 : IntKind.i64.wrap (n : Int) = n := IntWalk.i64_in _ (by omega)
      have w2 : IntKind.i64.wrap (m : Int) = m := IntWalk.i64_in _ (by omega)
      have hti : (typeInfo et).run P w = .ok i w := by simp [typeInfo, a2]
      have c1 : (decide ((m : Int) < 0) || decide ((by_ : Int) * (m : Int) > 2 ^ 48)) = false := by
        have e3 : (by_ : Int) * (m : Int) = ((by_ * m : Nat) : Int) := (Int.natCast_mul _ _).symm
        rw [e3]
        generalize by_ * m = q at hby ⊢
        have e48 : (2 : Int) ^ 48 = 281474976710656 := by decide
        rw [Bool.or_eq_false_iff]
        exact ⟨decide_eq_false (by omega), decide_eq_false (by rw [e48]; omega)⟩
      have c2 : decide ((n : Int) < 0) = false := by simp only [decide_eq_false_iff_not]; omega
      have c3 : decide ((n : Int) > (m : Int)) = false := by simp only [decide_eq_false_iff_not]; omega
      have hroom : ∀ b : Nat, (askRoom b).run P w = .ok () w := by intro b; unfold askRoom; split <;> rfl
      simp only [execOp, e, Instr.makeSlice, Sem.run_bind, run_underlying a1, e1, e2, asInt, asIntOf, Sem.run_pure, Result.andThen_ok, hti, a5, w1, w2, c1, c2, c3, Bool.or_self, Bool.false_eq_true, if_false, hroom, Int.toNat_natCast, run_sizeOf a2, a3]
      by_cases h0 : m * es = 0
      · have : m = 0 := by rcases Nat.mul_eq_zero.1 h0 with h | h; exact h; exact absurd h a4
        subst this
        rw [if_pos h0]
        simp only [Sem.run_bind, Sem.run_pure, Result.andThen_ok, Nat.zero_mul, run_newRow]
        have e4 : (Array.range 0).map (fun i => (#[] : Array Value)[i % (#[] : Array Value).size]!) = #[] := by simp
        rw [e4]
        rfl
      · rw [if_neg h0]
        simp only [Sem.run_bind, run_zeroValue a2 a6, Sem.run_pure, Result.andThen_ok, a7, run_newRow]
        have e4 := range_mod xs m
        rw [a8] at e4
        rw [e4]
    · simp [rel, updρ]
  · cases h3

theorem aMakeMap_ok (hT : TyOk P B) {t nk : Nat} {q : Option Operand} {κ : V → BO → Option R} (hh : aMakeMap B E t q nk κ = some r) : ∃ v o, κ v o = some r ∧ AOk P E (.makeMap t q) nk v o := by
  have fin : ∀ L ρ (w : World), ∃ lc, Frm w (pushed w (.map #[] 0)) ∧ (∀ b, b < w.heap.size → (pushed w (.map #[] 0)).heap[b]? = w.heap[b]?) ∧ (owns lc (.mp [] 0) → w.heap.size ≤ lc.b) ∧ ObjSat L ρ lc (pushed w (.map #[] 0)).heap (.mp [] 0) ∧
      rel (fun k => L k ∨ k = nk) (updρ ρ nk lc) (.map nk) (.map (some w.heap.size)) := by
    intro L ρ w
    refine ⟨{ b := w.heap.size }, pushed_frm w _, pushed_old w _, fun _ => Nat.le_refl _, ⟨[], pushed_new _ _, by simp [ents]⟩, by simp [rel, updρ]⟩
  unfold aMakeMap at hh
  split at hh
  · refine ⟨_, _, hh, fun L ρ ev w hnk ho => ?_⟩
    obtain ⟨lc, g⟩ := fin L ρ w
    refine ⟨.map (some w.heap.size), _, lc, fun oo e => ?_, g⟩
    simp [execOp, e, Instr.makeMap, newObj, Sem.run, pushed]
  · rename_i x
    obtain ⟨v, h1, h2⟩ := opv_some hh
    split at h2
    · rename_i k n p hmp
      obtain ⟨kt, et⟩ := p
      have hu := hT.mp _ _ _ hmp
      refine ⟨_, _, h2, fun L ρ ev w hnk ho => ?_⟩
      obtain ⟨lc, g⟩ := fin L ρ w
      refine ⟨.map (some w.heap.size), _, lc, fun oo e => ?_, g⟩
      have ex := od_int (ho x (by simp [Op.operands])) h1
      simp [execOp, e, Instr.makeMap, newObj, run_underlying hu, ex, asInt, asIntOf, Sem.run, pushed]
    · cases h2

theorem rels_bytes {L : Nat → Prop} {ρ : Nat → Loc} : ∀ (l : List Nat), (∀ b ∈ l, b < 256) → rels L ρ (l.map (fun b : Nat => V.int .u8 b)) ((l.map UInt8.ofNat).map fun b => Value.int .u8 b.toNat)
  | [], _ => rels_mk0
  | b :: l, h => by
    refine rels_mk ?_ (rels_bytes l (fun x hx => h x (by simp [hx])))
    simp only [rel]
    have := h b (by simp)
    rw [UInt8.toNat_ofNat', Nat.mod_eq_of_lt this]

theorem aBytes_ok (hT : TyOk P B) {s d nk : Nat} {x : Operand} {κ : V → BO → Option R} (hh : aBytes B E s d x nk κ = some r) : ∃ v o, κ v o = some r ∧ AOk P E (.convert s d x) nk v o := by
  obtain ⟨v, h1, h2⟩ := opv_some (show opv E x _ = some r from hh)
  split at h2
  · rename_i es et by_ hks hsl
    obtain ⟨_, _, _, hd1, ⟨rfl, _⟩⟩ := hT.knd _ _ hks
    obtain ⟨ie, z, a1, a2, _⟩ := hT.sl _ _ _ _ hsl
    split at h2
    · rename_i l hke
      obtain ⟨_, _, _, he, ⟨rfl, _⟩⟩ := hT.knd _ _ hke
      rw [lenK_eq0] at h2
      obtain ⟨_, h3⟩ := cond_some h2
      obtain ⟨h4, h5⟩ := bsK_some h3
      rw [List.take_length] at h4
      refine ⟨_, _, h4, fun L ρ ev w hnk ho => ?_⟩
      obtain ⟨hx, hl⟩ := od_bs (ho x (by simp [Op.operands]) _ h1)
      let q : Question := .appendCap (bt l).size 0 et
      let cap := q.cut (w.tape w.drawn q)
      have hcap : l.length ≤ cap := by
        show l.length ≤ (bt l).size + _ % _
        rw [bt_size]; omega
      let row : List Value := ((l.map UInt8.ofNat).map fun b => Value.int .u8 b.toNat) ++ List.replicate (cap - l.length) (Value.int .u8 0)
      have hrl : row.length = cap := by simp [row]; omega
      let w1 : World := { w with drawn := w.drawn + 1 }
      let w2 : World := pushed w1 (.cells row.toArray et (0, 0))
      let w3 : World := w2.freeze ⟨w.heap.size, cap, none⟩ 1
      have hw3 : w3.heap[w.heap.size]? = some (.cells row.toArray et (cap, cap + 1)) := by
        have : w2.heap[w.heap.size]? = some (.cells row.toArray et (0, 0)) := pushed_new w1 _
        simp [w3, World.freeze, Array.getElem?_modify, this]
      have hold : ∀ b, b < w.heap.size → w3.heap[b]? = w.heap[b]? := by
        intro b hb
        have : w2.heap[b]? = w.heap[b]? := pushed_old w1 _ b hb
        simp only [w3, World.freeze]
        rw [if_neg (by simp)]
        simp only [Array.getElem?_modify]
        rw [if_neg (by omega)]
        exact this
      have hsz : w.heap.size ≤ w3.heap.size := by simp [w3, World.freeze, w2, pushed, w1]
      refine ⟨.slice (some ⟨w.heap.size, 0, none⟩) l.length cap, w3, { b := w.heap.size, base := 0, cap := cap, nil := false }, fun oo e => ?_, ⟨rfl, rfl, rfl, hsz⟩, hold, fun _ => Nat.le_refl _, ?_, ?_⟩
      · have hc : (choose q).run P w = .ok cap w1 := by
          rw [run_choose]; rfl
        have hrow : (bt l).data.map (fun b => Value.int .u8 b.toNat) ++ Array.replicate (cap - (bt l).size) (.int .u8 0) = row.toArray := by
          apply Array.ext'
          simp [row, bt]
          show cap - (bt l).size = _
          rw [bt_size]
        have hm : (markStringish ⟨w.heap.size, 0, none⟩).run P w2 = .ok () w3 := by
          have : w2.heap[w.heap.size]? = some (.cells row.toArray et (0, 0)) := pushed_new w1 _
          simp [markStringish, shape, freeze, Sem.run, World.shape?, this, w3, hrl]
        have hcv : (convert s d (.string (bt l))).run P w = .ok (.slice (some ⟨w.heap.size, 0, none⟩) l.length cap) w3 := by
          simp only [convert, Sem.run_bind, run_underlying hd1, run_underlying a1, Result.andThen_ok, run_underlying he, Conv.stringToBytes]
          rw [show (Question.appendCap (bt l).size 0 et) = q from rfl, hc]
          simp only [Result.andThen_ok, hrow, run_newRow]
          rw [show (pushed w1 (.cells row.toArray et (0, 0))) = w2 from rfl, show w1.heap.size = w.heap.size from rfl, hm]
          simp only [Result.andThen_ok, bt_size]
          rfl
        simp only [execOp, e, hx, Sem.run_bind, hcv, Result.andThen_ok]
        rfl
      · refine .inr ⟨rfl, [], (l.map UInt8.ofNat).map fun b => Value.int .u8 b.toNat, List.replicate (cap - l.length) (Value.int .u8 0), (cap, cap + 1), by simpa [row] using hw3, ?_, rfl, rels_bytes l hl, ?_, ?_⟩
        · intro i hi
          have : i < cap := by simpa [hcap] using hi
          simp only; omega
        · simp [hcap]
        · simp [hcap]
      · simp [rel, updρ, hcap]
    · cases h2
  · cases h2

theorem opA_sound (hT : TyOk P B) {op : Op} {nk : Nat} {κ : V → BO → Option R} (hh : opA B E nk op κ = some r) : ∃ v o, κ v o = some r ∧ AOk P E op nk v o := by
  cases op <;> simp only [opA] at hh <;> first | (cases hh; done) | skip
  case alloc t => exact aAlloc_ok hT hh
  case box t x => exact aBox_ok hh
  case buildSlice t n ps =>
    obtain ⟨ps⟩ := ps
    exact aBuildSlice_ok hT hh
  case convert s d x => exact aBytes_ok hT hh
  case makeMap t q => exact aMakeMap_ok hT hh
  case makeSlice t l c => exact aMakeSlice_ok hT hh
end
end Go.Kn
