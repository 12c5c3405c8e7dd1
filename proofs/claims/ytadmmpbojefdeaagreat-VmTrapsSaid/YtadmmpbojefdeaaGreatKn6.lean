/-
  The engine is right: operations that leave the heap alone (1). Conditions: none.
-/
import Derived.Test.YtadmmpbojefdeaaGreatKn5
import Derived.MapKept
import Derived.Laws.BytesString
import Derived.Laws.Append
import Derived.Laws.Strings
import Derived.Laws.Slices
import Derived.Laws.StructEq
import Derived.Laws.Cover3
import Derived.WideLaws
namespace Go.Kn
open Go
variable {R : Type} {r : R}

def aggD : TypeDesc → Bool
  | .struct _ | .array _ _ => true
  | _ => false

def aggV : Value → Bool
  | .agg _ => true
  | _ => false

def KdOk : Kd → TypeDesc → Nat → Prop
  | .int k, d, n => d = .int k ∧ n = 1
  | .str, d, n => d = .string ∧ n = 1
  | .bool, d, n => d = .bool ∧ n = 1
  | .ptr, d, n => (∃ e, d = .pointer e) ∧ n = 1
  | .ifc, d, n => (∃ m, d = .interface m) ∧ n = 1
  | .sl, d, n => (∃ e, d = .slice e) ∧ n = 1
  | .mp, d, n => (∃ k e, d = .map k e) ∧ n = 1
  | .fn, d, n => (∃ a b c, d = .func a b c) ∧ n = 1
  | .one, d, n => aggD d = false ∧ (∀ m, d ≠ .interface m) ∧ n = 1
  | .agg k, d, n => aggD d = true ∧ n = k

def expand : List (Nat × V) → List V
  | [] => []
  | (n, v) :: r => List.replicate n v ++ expand r

/-- A field is one cell: a number, a bool, a string. -/
def flatF (P : Program) (i : Nat) (f : Field) (k : Kd) : Prop := f.name ≠ "_" ∧ f.offset = i ∧ match k with
  | .int _ => ∃ k, P.underlying f.type = some (.int k)
  | .bool => P.underlying f.type = some .bool
  | .str => P.underlying f.type = some .string
  | _ => False

def flatFs (P : Program) : Nat → List Field → List Kd → Prop
  | _, [], [] => True
  | i, f :: fs, k :: ks => flatF P i f k ∧ flatFs P (i + 1) fs ks
  | _, _, _ => False

structure TyOk (P : Program) (B : Tb) : Prop where
  knd : ∀ t k, B.knd t = some k → ∃ i d, P.info? t = some i ∧ P.underlying t = some d ∧ KdOk k d i.size
  fld : ∀ s f off n ag, B.fld s f = some (off, n, ag) → ∃ fs fd i d, P.underlying s = some (.struct fs) ∧ fs[f]? = some fd ∧ fd.offset = off ∧ P.info? fd.type = some i ∧ i.size = n ∧ n ≠ 0 ∧ P.underlying fd.type = some d ∧ aggD d = ag
  sl : ∀ t es e by_, B.sl t = some (es, e, by_) → ∃ i z, P.underlying t = some (.slice e) ∧ P.info? e = some i ∧ i.size = es ∧ es ≠ 0 ∧ i.bytes = by_ ∧ i.zero = some z ∧ z.cells.size = es
  arr : ∀ t n es e ag, B.arr t = some (n, es, e, ag) → ∃ i d, P.underlying t = some (.array n e) ∧ P.info? e = some i ∧ i.size = es ∧ es ≠ 0 ∧ P.underlying e = some d ∧ aggD d = ag
  mp : ∀ t k e, B.mp t = some (k, e) → P.underlying t = some (.map k e)
  zr : ∀ t l, B.zr t = some l → ∃ i z d xs, P.info? t = some i ∧ i.zero = some z ∧ P.underlying t = some d ∧ aggV z = aggD d ∧ z.cells = xs.toArray ∧ (∀ L ρ, rels L ρ (expand l) xs) ∧ (∀ fs, d = .struct fs → ∀ f ∈ fs, (P.info? f.type).isSome = true) ∧ (∀ n e, d = .array n e → (P.info? e).isSome = true)
  flat : ∀ t ks, B.flat t = some ks → ∃ fs : Array Field, P.underlying t = some (.struct fs) ∧ P.stoodInHeld t = false ∧ P.eqGuardType P.depth t = false ∧ flatFs P 0 fs.toList ks

theorem run_sizeOf {P : Program} {t : Nat} {i : TypeInfo} (h : P.info? t = some i) (w : World) : (sizeOf t).run P w = .ok i.size w := by
  simp [sizeOf, typeInfo, h]

theorem run_isAgg {P : Program} {t : Nat} {d : TypeDesc} (h : P.underlying t = some d) (w : World) : (isAgg t).run P w = .ok (aggD d) w := by
  simp only [isAgg, Sem.run_bind, run_underlying h, Result.andThen_ok]
  cases d <;> rfl

theorem run_zeroValue {P : Program} {t : Nat} {i : TypeInfo} {z : Value} (h : P.info? t = some i) (hz : i.zero = some z) (w : World) : (zeroValue t).run P w = .ok z w := by
  simp [zeroValue, typeInfo, h, hz]

theorem kd_agg {k : Kd} {d : TypeDesc} {n : Nat} (h : KdOk k d n) (hk : ∀ m, k ≠ .agg m) : aggD d = false ∧ n = 1 := by
  cases k <;> simp only [KdOk] at h <;> first
    | exact absurd rfl (hk _)
    | (obtain ⟨⟨e, rfl⟩, h2⟩ := h; exact ⟨rfl, h2⟩)
    | (obtain ⟨⟨e, e2, rfl⟩, h2⟩ := h; exact ⟨rfl, h2⟩)
    | (obtain ⟨⟨e, e2, e3, rfl⟩, h2⟩ := h; exact ⟨rfl, h2⟩)
    | (obtain ⟨rfl, h2⟩ := h; exact ⟨rfl, h2⟩)
    | exact ⟨h.1, h.2.2⟩

theorem kEq_eq {k k' : IntKind} (h : kEq k k' = true) : k = k' := by cases k <;> cases k' <;> first | rfl | cases h

theorem nat_blt (a b : Nat) : Nat.blt a b = decide (a < b) := by
  rw [Bool.eq_iff_iff]; simp [Nat.blt_eq]
theorem nat_beq_dec (a b : Nat) : Nat.beq a b = decide (a = b) := by
  rw [Bool.eq_iff_iff]; simp [Nat.beq_eq]
theorem nat_ble_dec (a b : Nat) : Nat.ble a b = decide (a ≤ b) := by
  rw [Bool.eq_iff_iff]; simp [Nat.ble_eq]

theorem iEq_iff (a b : Int) : iEq a b = (a == b) := by
  rw [Bool.eq_iff_iff]
  cases a <;> cases b <;> simp only [iEq, nat_beq_dec, beq_iff_eq, decide_eq_true_eq, Int.ofNat.injEq, Int.negSucc.injEq] <;> simp

theorem iLt_iff (a b : Int) : iLt a b = decide (a < b) := by
  rw [Bool.eq_iff_iff]
  have e1 : ∀ m : Nat, Int.ofNat m = (m : Int) := fun _ => rfl
  cases a <;> cases b <;> simp only [iLt, nat_blt, decide_eq_true_eq, e1, Int.negSucc_eq, Bool.false_eq_true] <;> first | omega | (simp only [true_iff, false_iff]; omega)

/-! Strings. -/
def bt (l : List Nat) : ByteArray := ⟨(l.map UInt8.ofNat).toArray⟩
theorem bytesV_bt (l : List Nat) : bytesV l = .string (bt l) := rfl
theorem bt_size (l : List Nat) : (bt l).size = l.length := by simp [bt, ByteArray.size]
theorem bt_data (l : List Nat) : (bt l).data.toList = l.map UInt8.ofNat := by simp [bt]
theorem bt_toList (l : List Nat) : (bt l).toList = l.map UInt8.ofNat := by rw [ByteArray.toList_eq, bt_data]

theorem ofNat_inj {a b : Nat} (ha : a < 256) (hb : b < 256) (h : UInt8.ofNat a = UInt8.ofNat b) : a = b := by
  have := congrArg UInt8.toNat h
  simpa [Nat.mod_eq_of_lt ha, Nat.mod_eq_of_lt hb] using this

theorem eqL_iff : ∀ {l m : List Nat}, (∀ b ∈ l, b < 256) → (∀ b ∈ m, b < 256) → eqL l m = (l.map UInt8.ofNat == m.map UInt8.ofNat)
  | [], [], _, _ => rfl
  | [], _ :: _, _, _ => rfl
  | _ :: _, [], _, _ => rfl
  | a :: l, b :: m, hl, hm => by
    simp only [eqL, List.map_cons, List.cons_beq_cons]
    rw [eqL_iff (fun x hx => hl x (by simp [hx])) (fun x hx => hm x (by simp [hx]))]
    congr 1
    by_cases h : a = b
    · subst h; simp
    · have : Nat.beq a b = false := by rw [Bool.eq_false_iff]; exact fun e => h (nat_beq e)
      rw [this]; symm
      simp only [beq_eq_false_iff_ne, ne_eq]
      exact fun e => h (ofNat_inj (hl a (by simp)) (hm b (by simp)) e)

theorem ltL_iff : ∀ {l m : List Nat}, (∀ b ∈ l, b < 256) → (∀ b ∈ m, b < 256) → ltL l m = Op.bytesLess (l.map UInt8.ofNat) (m.map UInt8.ofNat)
  | _, [], _, _ => by simp [ltL, Op.bytesLess]
  | [], _ :: _, _, _ => rfl
  | a :: l, b :: m, hl, hm => by
    simp only [ltL, List.map_cons, Op.bytesLess]
    rw [ltL_iff (fun x hx => hl x (by simp [hx])) (fun x hx => hm x (by simp [hx]))]
    have ha := hl a (by simp)
    have hb := hm b (by simp)
    congr 1
    · rw [nat_blt]
      simp only [UInt8.lt_iff_toNat_lt, UInt8.toNat_ofNat']
      rw [Nat.mod_eq_of_lt ha, Nat.mod_eq_of_lt hb]
    · congr 1
      by_cases h : a = b
      · subst h; simp
      · have : Nat.beq a b = false := by rw [Bool.eq_false_iff]; exact fun e => h (nat_beq e)
        rw [this]; symm
        simp only [beq_eq_false_iff_ne, ne_eq]
        exact fun e => h (ofNat_inj ha hb e)

theorem bytes_ext {a b : ByteArray} (h : a.data = b.data) : a = b := by cases a; cases b; cases h; rfl

theorem bt_append (l m : List Nat) : bt l ++ bt m = bt (l ++ m) := by
  apply bytes_ext
  simp only [bt, ByteArray.data_append, List.map_append]
  simp

theorem bt_extract (l : List Nat) (i n : Nat) : (bt l).extract i (i + n) = bt ((l.drop i).take n) := by
  apply bytes_ext
  simp only [bt, ByteArray.data_extract, List.extract_toArray, List.extract_eq_take_drop, Nat.add_sub_cancel_left]
  simp [List.map_take, List.map_drop]

theorem bt_get {l : List Nat} {i b : Nat} (h : l[i]? = some b) (hb : b < 256) : (bt l)[i]? = some (UInt8.ofNat b) ∧ ((UInt8.ofNat b).toNat : Int) = b := by
  have hi := (List.getElem?_eq_some_iff.1 h).1
  have hl : (l.map UInt8.ofNat)[i]? = some (UInt8.ofNat b) := by simp [h]
  refine ⟨?_, by rw [UInt8.toNat_ofNat', Nat.mod_eq_of_lt hb]⟩
  have hs : i < (bt l).size := by rw [bt_size]; exact hi
  rw [getElem?_pos (bt l) i hs]
  have e : (bt l)[i] = (bt l).data[i]'hs := rfl
  rw [e]
  exact congrArg some (List.getElem?_eq_some_iff.1 hl).2

/-! What an operation yields that leaves the world alone. -/
abbrev Qs (P : Program) (E : En) (h : Hp) (xs : List Operand) (sem : (Operand → Value) → Sem Value) (v : V) : Prop :=
  ∀ L ρ fr ev w, (∀ x ∈ xs, Od L ρ E ev x) → Sat L ρ h.get fr w.heap → ∃ y, rel L ρ v y ∧ (sem ev).run P w = .ok y w

section
variable {P : Program} {B : Tb} {E : En} {h : Hp}

theorem qMove_ok {x : Operand} {κ : V → Option R} (hh : qMove E x κ = some r) : ∃ v, κ v = some r ∧ Qs P E h [x] (fun ev => pure (ev x)) v := by
  obtain ⟨v, h1, h2⟩ := opv_some (show opv E x κ = some r from hh)
  exact ⟨v, h2, fun L ρ fr ev w ho _ => ⟨_, ho x (by simp) v h1, rfl⟩⟩

theorem qPick_ok {c a b : Operand} {κ : V → Option R} (hh : qPick E c a b κ = some r) : ∃ v, κ v = some r ∧ Qs P E h [c, a, b] (fun ev => do pure (if ← asBool (ev c) then ev a else ev b)) v := by
  obtain ⟨v, h1, h2⟩ := opv_some (show opv E c _ = some r from hh)
  split at h2
  · obtain ⟨u, h3, h4⟩ := opv_some h2
    refine ⟨u, h4, fun L ρ fr ev w ho _ => ⟨_, ho a (by simp) u h3, ?_⟩⟩
    have := ho c (by simp) _ h1
    simp only [rel] at this
    simp [this, asBool]
  · obtain ⟨u, h3, h4⟩ := opv_some h2
    refine ⟨u, h4, fun L ρ fr ev w ho _ => ⟨_, ho b (by simp) u h3, ?_⟩⟩
    have := ho c (by simp) _ h1
    simp only [rel] at this
    simp [this, asBool]
  · cases h2

theorem qExtract_ok {x : Operand} {i : Nat} {κ : V → Option R} (hh : qExtract E x i κ = some r) : ∃ v, κ v = some r ∧ Qs P E h [x] (fun ev => Instr.extract (ev x) i) v := by
  obtain ⟨v, h1, h2⟩ := opv_some (show opv E x _ = some r from hh)
  split at h2
  · obtain ⟨u, h3, h4⟩ := nthK_some h2
    refine ⟨u, h4, fun L ρ fr ev w ho _ => ?_⟩
    have := ho x (by simp) _ h1
    simp only [rel] at this
    obtain ⟨xs, e, hr⟩ := this
    obtain ⟨y, hy, hr⟩ := rels_get hr h3
    exact ⟨y, hr, by simp [e, Instr.extract, hy]⟩
  · cases h2

theorem manyK_eq (v : V) : ∀ (n : Nat) (l : List V) (κ : List V → Option R), manyK v l n κ = κ (List.replicate n v ++ l)
  | 0, l, κ => rfl
  | n + 1, l, κ => by simp only [manyK]; rw [manyK_eq v n l]; simp [List.replicate_succ]

theorem runsK_eq : ∀ (l : List (Nat × V)) (κ : List V → Option R), runsK l κ = κ (expand l)
  | [], κ => rfl
  | (n, v) :: q, κ => by simp only [runsK, expand]; rw [runsK_eq q]; exact manyK_eq v n _ κ

theorem zerosK_some (hT : TyOk P B) {t : Nat} {κ : List V → Option R} (hh : zerosK B t κ = some r) : ∃ cs i z d xs, κ cs = some r ∧ P.info? t = some i ∧ i.zero = some z ∧ P.underlying t = some d ∧ aggV z = aggD d ∧ z.cells = xs.toArray ∧
    (∀ L ρ, rels L ρ cs xs) ∧ (∀ fs, d = .struct fs → ∀ f ∈ fs, (P.info? f.type).isSome = true) ∧ (∀ n e, d = .array n e → (P.info? e).isSome = true) := by
  unfold zerosK at hh
  split at hh
  · rename_i l hl
    rw [runsK_eq] at hh
    obtain ⟨i, z, d, xs, h1, h2, h3, h4, h5, h6, h7⟩ := hT.zr t l hl
    exact ⟨_, i, z, d, xs, hh, h1, h2, h3, h4, h5, h6, h7⟩
  · cases hh

theorem repK_eq (zs : List V) : ∀ (n : Nat) (κ : List V → Option R), repK zs n κ = κ ((List.replicate n zs).flatten)
  | 0, κ => rfl
  | n + 1, κ => by
    simp only [repK]
    rw [repK_eq zs n, appK_eq]
    simp [List.replicate_succ]

theorem zeroK_some (hT : TyOk P B) {t : Nat} {κ : V → Option R} (hh : zeroK B t κ = some r) : ∃ v z, κ v = some r ∧ (∀ L ρ, rel L ρ v z) ∧ ∀ w, (zeroValue t).run P w = .ok z w := by
  unfold zeroK at hh
  split at hh
  · rename_i n hk
    obtain ⟨cs, i, z, d, xs, h1, h2, h3, h4, h5, h6, h7, _⟩ := zerosK_some hT hh
    obtain ⟨i', d', g1, g2, g3⟩ := hT.knd _ _ hk
    rw [h4] at g2; cases g2
    simp only [KdOk] at g3
    rw [g3.1] at h5
    refine ⟨_, z, h1, fun L ρ => ?_, fun w => run_zeroValue h2 h3 w⟩
    cases z <;> simp only [aggV, Bool.false_eq_true] at h5
    simp only [Value.cells] at h6
    simp only [rel]
    exact ⟨xs, by rw [h6], h7 L ρ⟩
  · rename_i k hnk hk
    obtain ⟨cs, i, z, d, xs, h1, h2, h3, h4, h5, h6, h7, _⟩ := zerosK_some hT hh
    obtain ⟨i', d', g1, g2, g3⟩ := hT.knd _ _ hk
    rw [h4] at g2; cases g2
    obtain ⟨g4, _⟩ := kd_agg g3 (fun m e => hnk m (by rw [e]))
    rw [g4] at h5
    split at h1
    · rename_i v
      refine ⟨v, z, h1, fun L ρ => ?_, fun w => run_zeroValue h2 h3 w⟩
      obtain ⟨x, q, rfl, hx, hq⟩ := rels_cons (h7 L ρ)
      have := rels_nil hq; subst this
      have : z = x := by
        cases z <;> first
          | (simp only [aggV, Bool.true_eq_false] at h5; done)
          | (simpa [Value.cells] using h6)
          | skip
      rw [this]; exact hx
    · cases h1
  · cases hh

/-- A value that is read out of cells. -/
theorem ofK_some (hT : TyOk P B) {t : Nat} {cs : List V} {off : Nat} {κ : V → Option R} (hh : ofK B t cs off κ = some r) : ∃ v, κ v = some r ∧
    ((∃ n d i, v = .agg ((cs.drop off).take n) ∧ off + n ≤ cs.length ∧ P.underlying t = some d ∧ aggD d = true ∧ P.info? t = some i ∧ i.size = n) ∨
     (∃ d i, cs[off]? = some v ∧ P.underlying t = some d ∧ aggD d = false ∧ P.info? t = some i ∧ i.size = 1)) := by
  unfold ofK at hh
  split at hh
  · rename_i n hk
    obtain ⟨h1, h2⟩ := segK_some hh
    obtain ⟨i, d, g1, g2, g3⟩ := hT.knd _ _ hk
    exact ⟨_, h1, .inl ⟨n, d, i, rfl, h2, g2, g3.1, g1, g3.2⟩⟩
  · rename_i k hnk hk
    obtain ⟨v, h1, h2⟩ := nthK_some hh
    obtain ⟨i, d, g1, g2, g3⟩ := hT.knd _ _ hk
    obtain ⟨g4, g5⟩ := kd_agg g3 (fun m e => hnk m (by rw [e]))
    exact ⟨v, h2, .inr ⟨d, i, h1, g2, g4, g1, g5⟩⟩
  · cases hh

/-- A load. -/
theorem loadVar_ok {L : Nat → Prop} {ρ : Nat → Loc} {H : Nat → Option BO} {fr : Nat → Option Obj} {w : World} (hT : TyOk P B) {t k off : Nat} {a : Option Nat} {cs : List V} {T : Nat} {κ : V → Option R} (hh : ofK B t cs off κ = some r) :
    ∃ v, κ v = some r ∧ (Sat L ρ H fr w.heap → H k = some (.o a cs T) → ∃ y, rel L ρ v y ∧ (loadVar t ⟨(ρ k).b, (ρ k).base + off, none⟩).run P w = .ok y w) := by
  obtain ⟨v, h1, h2 | h2⟩ := ofK_some hT hh
  · obtain ⟨n, d, i, rfl, h3, h4, h5, h6, h7⟩ := h2
    refine ⟨_, h1, fun hs hk => ?_⟩
    obtain ⟨xs, g1, g2, g3⟩ := hs.loads (P := P) hk (n := n) (off := off) (by simpa [BO.cs] using h3)
    refine ⟨.agg xs.toArray, by simp only [rel]; exact ⟨xs, rfl, g1⟩, ?_⟩
    simp [loadVar, run_isAgg h4, h5, run_sizeOf h6, h7, g3]
  · obtain ⟨d, i, h3, h4, h5, h6, h7⟩ := h2
    refine ⟨v, h1, fun hs hk => ?_⟩
    obtain ⟨y, g1, g2, _⟩ := hs.cell hk (v := v) (by simpa [BO.cs] using h3)
    exact ⟨y, g2, by simp [loadVar, run_isAgg h4, h5, g1]⟩

theorem qLoad_ok (hT : TyOk P B) {t : Nat} {x : Operand} {κ : V → Option R} (hh : qLoad B E h t x κ = some r) : ∃ v, κ v = some r ∧ Qs P E h [x] (fun ev => Instr.loadAt t (ev x)) v := by
  obtain ⟨v, h1, h2⟩ := opv_some (show opv E x _ = some r from hh)
  obtain ⟨k, off, rfl, h3⟩ := asPtr_some h2
  obtain ⟨a, cs, T, h4, h5⟩ := asObj_some h3
  obtain ⟨u, h6, _⟩ := ofK_some hT h5
  have e : ∃ u, κ u = some r ∧ ofK B t cs off some = some u := by
    clear h6
    unfold ofK at h5 ⊢
    split at h5
    · obtain ⟨g1, g2⟩ := segK_some h5
      exact ⟨_, g1, by rw [segK_mk g2]⟩
    · obtain ⟨v, g1, g2⟩ := nthK_some h5
      exact ⟨v, g2, by rw [nthK_mk g1]⟩
    · cases h5
  obtain ⟨u, g1, g2⟩ := e
  refine ⟨u, g1, fun L ρ fr ev w ho hs => ?_⟩
  have hp := ho x (by simp) _ h1
  simp only [rel] at hp
  obtain ⟨u', g3, g4⟩ := loadVar_ok (L := L) (ρ := ρ) (H := h.get) (fr := fr) (w := w) (k := k) (a := a) (T := T) hT g2
  cases g3
  obtain ⟨y, g5, g6⟩ := g4 hs h4
  exact ⟨y, g5, by simp [Instr.loadAt, hp.2, Instr.sureAddr, g6]⟩
where
  nthK_mk {κ : V → Option V} : ∀ {l : List V} {n : Nat} {v : V}, l[n]? = some v → nthK κ l n = κ v
    | [], n, v, h => by simp at h
    | u :: l, 0, v, h => by simp at h; subst h; rfl
    | u :: l, n + 1, v, h => by
      have : Nat.beq (n + 1) 0 = false := rfl
      simp only [nthK, this, cond_false]
      exact nthK_mk (by simpa using h)
  takeK_mk {κ : List V → Option V} : ∀ {l : List V} {n : Nat}, n ≤ l.length → takeK l n κ = κ (l.take n)
    | [], n, h => by
      have : n = 0 := by simpa using h
      subst this; rfl
    | u :: l, 0, h => rfl
    | u :: l, n + 1, h => by
      have : Nat.beq (n + 1) 0 = false := rfl
      simp only [takeK, this, cond_false]
      exact takeK_mk (κ := fun l => κ (u :: l)) (by simpa using h)
  segK_mk {κ : List V → Option V} : ∀ {l : List V} {i n : Nat}, i + n ≤ l.length → segK l i n κ = κ ((l.drop i).take n)
    | [], i, n, h => by
      have h1 : i = 0 := by simp at h; omega
      have h2 : n = 0 := by simp at h; omega
      subst h1 h2; rfl
    | u :: l, 0, n, h => by
      simp only [segK, List.drop_zero]
      exact takeK_mk (by simpa using h)
    | u :: l, i + 1, n, h => by
      have : Nat.beq (i + 1) 0 = false := rfl
      simp only [segK, this, cond_false]
      exact segK_mk (by simp at h ⊢; omega)
end
end Go.Kn
