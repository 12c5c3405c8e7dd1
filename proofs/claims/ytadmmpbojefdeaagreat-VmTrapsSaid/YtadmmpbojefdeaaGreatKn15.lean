/-
  The engine is right: operations that change the heap (4): append, and all of them. Conditions: none.
-/
import Derived.Test.YtadmmpbojefdeaaGreatKn14
namespace Go.Kn
open Go
variable {R : Type} {r : R}

def drew1 (w : World) : World := { w with drawn := w.drawn + 1 }

section
variable {P : Program} {B : Tb} {E : En} {h : Hp}

theorem second_cases (hT : TyOk P B) {ts : List Nat} (hs : second B ts = true) : ts = [] ∨ (∃ t2 q e, ts = t2 :: q ∧ P.underlying t2 = some (.slice e)) ∨ (∃ t2 q, ts = t2 :: q ∧ P.underlying t2 = some .string) := by
  cases ts with
  | nil => exact .inl rfl
  | cons t2 ts =>
    simp only [second] at hs
    split at hs
    · rename_i hk
      obtain ⟨_, d, _, hd, hk'⟩ := hT.knd _ _ hk
      obtain ⟨⟨e, rfl⟩, _⟩ := hk'
      exact .inr (.inl ⟨_, _, _, rfl, hd⟩)
    · rename_i hk
      obtain ⟨_, d, _, hd, hk'⟩ := hT.knd _ _ hk
      obtain ⟨rfl, _⟩ := hk'
      exact .inr (.inr ⟨_, _, rfl, hd⟩)
    · cases hs

theorem append_fit (hT : TyOk P B) {t ty : Nat} {ts : List Nat} (hsec : second B ts = true) {et es : Nat} {i : TypeInfo} (hu : P.underlying t = some (.slice et)) (hi : P.info? et = some i) (he : i.size = es) {base : Option Addr} {sLen sCap n : Nat} {x : Value} {new : List Value} {w w' : World}
    (hlen : (Builtin.lenOf x).run P w = .ok n w) (hfit : sLen + n ≤ sCap) (hnew : (Builtin.firstCells es n x).run P w = .ok new.toArray w) (hst : ∀ a, base = some a → (storeCells (a.add (sLen * es)) new).run P w = .ok () w') (hno : base = none → w' = w) :
    (Builtin.append_ (t :: ts).toArray ty #[.slice base sLen sCap, x]).run P w = .ok (.slice base (sLen + n) sCap) w' := by
  rcases second_cases hT hsec with rfl | ⟨t2, q, e, rfl, h2⟩ | ⟨t2, q, rfl, h2⟩
  · simp only [Builtin.append_, List.getElem?_toArray, List.getElem?_cons_zero, List.getElem?_cons_succ, List.getElem?_nil, Sem.run_bind, run_underlying hu, Result.andThen_ok, run_sizeOf hi, he, Sem.run_pure, Bool.false_eq_true, if_false, hlen, Bool.not_false, if_true, hfit, hnew]
    cases base with
    | none => have := hno rfl; subst this; rfl
    | some a => simp only [Sem.run_bind, hst a rfl, Result.andThen_ok]; rfl
  · simp only [Builtin.append_, List.getElem?_toArray, List.getElem?_cons_zero, List.getElem?_cons_succ, List.getElem?_nil, Sem.run_bind, run_underlying hu, run_underlying h2, Result.andThen_ok, run_sizeOf hi, he, Sem.run_pure, Bool.false_eq_true, if_false, hlen, Bool.not_false, if_true, hfit, hnew]
    cases base with
    | none => have := hno rfl; subst this; rfl
    | some a => simp only [Sem.run_bind, hst a rfl, Result.andThen_ok]; rfl
  · simp only [Builtin.append_, List.getElem?_toArray, List.getElem?_cons_zero, List.getElem?_cons_succ, List.getElem?_nil, Sem.run_bind, run_underlying hu, run_underlying h2, Result.andThen_ok, run_sizeOf hi, he, Sem.run_pure, Bool.false_eq_true, if_false, hlen, Bool.not_false, if_true, hfit, hnew]
    cases base with
    | none => have := hno rfl; subst this; rfl
    | some a => simp only [Sem.run_bind, hst a rfl, Result.andThen_ok]; rfl

theorem append_grow (hT : TyOk P B) {t ty : Nat} {ts : List Nat} (hsec : second B ts = true) {et es by_ : Nat} {i : TypeInfo} {z : Value} {zs : List Value} (hu : P.underlying t = some (.slice et)) (hi : P.info? et = some i) (he : i.size = es) (hby : i.bytes = by_) (hz : i.zero = some z) (hzs : z.cells = zs.toArray) (hzl : zs.length = es)
    {base : Option Addr} {sLen sCap n : Nat} {x : Value} {old new : List Value} {w : World}
    (hlen : (Builtin.lenOf x).run P w = .ok n w) (hfit : ¬ sLen + n ≤ sCap) (hb : (2 * (sLen + n) + 1024) * by_ ≤ 281474976710656) (hm : sLen + n ≤ 1099511627776) (hold : (Builtin.firstCells es sLen (.slice base sLen sCap)).run P (drew1 w) = .ok old.toArray (drew1 w)) (hnew : (Builtin.firstCells es n x).run P (drew1 w) = .ok new.toArray (drew1 w)) :
    ∃ newCap zz, sLen + n ≤ newCap ∧ zz.length = (newCap - (sLen + n)) * es ∧ (Builtin.append_ (t :: ts).toArray ty #[.slice base sLen sCap, x]).run P w = .ok (.slice (some ⟨w.heap.size, 0, none⟩) (sLen + n) newCap) (pushed (drew1 w) (.cells (old ++ new ++ zz).toArray et (0, 0))) := by
  let q : Question := .appendCap (sLen + n) sCap et
  let newCap := q.cut (w.tape w.drawn q)
  have hcap : sLen + n ≤ newCap := by
    show sLen + n ≤ (sLen + n) + _ % _
    omega
  refine ⟨newCap, (List.replicate (newCap - (sLen + n)) zs).flatten, hcap, by rw [rep_length, hzl], ?_⟩
  have hc : (choose q).run P w = .ok newCap (drew1 w) := by rw [run_choose]; rfl
  have hti : ∀ w, (typeInfo et).run P w = .ok i w := fun w => by simp [typeInfo, hi]
  have hroom : ∀ (b : Nat) w, (askRoom b).run P w = .ok () w := by intro b w; unfold askRoom; split <;> rfl
  have hnsc : ¬ Builtin.nextslicecap (sLen + n) sCap * by_ > 2 ^ 48 := by
    have h1 := nextslicecap_le (show sCap < sLen + n by omega)
    have h3 : Builtin.nextslicecap (sLen + n) sCap * by_ ≤ (2 * (sLen + n) + 1024) * by_ := Nat.mul_le_mul_right _ (by omega)
    have e48 : (2 : Nat) ^ 48 = 281474976710656 := by decide
    rw [e48]; omega
  have hbig : ¬ (((sLen + n : Nat) : Int) > IntKind.i64.max ∧ (False ∨ by_ = 0)) := by
    have e : IntKind.i64.max = 9223372036854775807 := by decide
    rw [e]; omega
  have hzc : Builtin.zeroCells z.cells (newCap - (sLen + n)) = (List.replicate (newCap - (sLen + n)) zs).flatten.toArray := by
    rw [hzs, ← range_mod]; simp [Builtin.zeroCells]
  rcases second_cases hT hsec with rfl | ⟨t2, _, e, rfl, h2⟩ | ⟨t2, _, rfl, h2⟩
  · simp only [Builtin.append_, List.getElem?_toArray, List.getElem?_cons_zero, List.getElem?_cons_succ, List.getElem?_nil, Sem.run_bind, run_underlying hu, Result.andThen_ok, run_sizeOf hi, he, Sem.run_pure, Bool.false_eq_true, if_false, hlen, Bool.not_false, if_true, hfit, hti, hby]
    rw [if_neg hbig]
    simp only [Sem.run_bind, hti, Result.andThen_ok, hby]
    rw [if_neg hnsc]
    rw [show (Question.appendCap (sLen + n) sCap et) = q from rfl]
    simp only [Sem.run_bind, hc, Result.andThen_ok, hti, hby, hroom, hold, hnew, run_zeroValue hi hz, hzc, run_newRow]
    simp only [Sem.run_pure, drew1]
    rw [show old.toArray ++ new.toArray ++ (List.replicate (newCap - (sLen + n)) zs).flatten.toArray = (old ++ new ++ (List.replicate (newCap - (sLen + n)) zs).flatten).toArray by simp]
  · simp only [Builtin.append_, List.getElem?_toArray, List.getElem?_cons_zero, List.getElem?_cons_succ, List.getElem?_nil, Sem.run_bind, run_underlying hu, run_underlying h2, Result.andThen_ok, run_sizeOf hi, he, Sem.run_pure, Bool.false_eq_true, if_false, hlen, Bool.not_false, if_true, hfit, hti, hby]
    rw [if_neg hbig]
    simp only [Sem.run_bind, hti, Result.andThen_ok, hby]
    rw [if_neg hnsc]
    rw [show (Question.appendCap (sLen + n) sCap et) = q from rfl]
    simp only [Sem.run_bind, hc, Result.andThen_ok, hti, hby, hroom, hold, hnew, run_zeroValue hi hz, hzc, run_newRow]
    simp only [Sem.run_pure, drew1]
    rw [show old.toArray ++ new.toArray ++ (List.replicate (newCap - (sLen + n)) zs).flatten.toArray = (old ++ new ++ (List.replicate (newCap - (sLen + n)) zs).flatten).toArray by simp]
  · simp only [Builtin.append_, List.getElem?_toArray, List.getElem?_cons_zero, List.getElem?_cons_succ, List.getElem?_nil, Sem.run_bind, run_underlying hu, run_underlying h2, Result.andThen_ok, run_sizeOf hi, he, Sem.run_pure, Bool.false_eq_true, if_false, hlen, Bool.not_false, if_true, hfit, hti, hby]
    rw [if_neg hbig]
    simp only [Sem.run_bind, hti, Result.andThen_ok, hby]
    rw [if_neg hnsc]
    rw [show (Question.appendCap (sLen + n) sCap et) = q from rfl]
    simp only [Sem.run_bind, hc, Result.andThen_ok, hti, hby, hroom, hold, hnew, run_zeroValue hi hz, hzc, run_newRow]
    simp only [Sem.run_pure, drew1]
    rw [show old.toArray ++ new.toArray ++ (List.replicate (newCap - (sLen + n)) zs).flatten.toArray = (old ++ new ++ (List.replicate (newCap - (sLen + n)) zs).flatten).toArray by simp]

/-- A slice that has grown into a new block. -/
theorem grow_sat {L : Nat → Prop} {ρ : Nat → Loc} {H : Nat → Option BO} {fr : Nat → Option Obj} {w : World} (hs : Sat L ρ H fr w.heap) {nk : Nat} (hnk : ¬ L nk) {cs : List V} {ys zz : List Value} (hr : rels L ρ cs ys) {tot es newCap et : Nat} (hl : ys.length = tot * es) (hc : tot ≤ newCap) (hz : zz.length = (newCap - tot) * es) :
    ∃ L' ρ', Ext L ρ L' ρ' ∧ (∀ k, L' k ↔ L k ∨ k = nk) ∧ rel L' ρ' (.vec nk tot) (.slice (some ⟨w.heap.size, 0, none⟩) tot newCap) ∧ Sat L' ρ' (updT H nk (.o (some es) cs et)) fr (pushed (drew1 w) (.cells (ys ++ zz).toArray et (0, 0))).heap ∧ Frm w (pushed (drew1 w) (.cells (ys ++ zz).toArray et (0, 0))) := by
  have hlen : (ys ++ zz).length = newCap * es := by
    rw [List.length_append, hl, hz, ← Nat.add_mul]; congr 1; omega
  refine ⟨_, _, updρ_ext hnk { b := w.heap.size, base := 0, cap := newCap, nil := false }, fun k => Iff.rfl, ?_, hs.alloc nk hnk _ _ (pushed_old (drew1 w) _) (fun _ => Nat.le_refl _) (.inr ⟨rfl, [], ys, zz, (0, 0), by rw [List.nil_append]; exact pushed_new (drew1 w) _, Thaw.none _, rfl, hr, ?_, ?_⟩), ⟨rfl, rfl, rfl, by simp [pushed, drew1]⟩⟩
  · simp [rel, updρ, hc]
  · simp only [List.nil_append, List.length_nil, Nat.zero_add, hlen]; exact Nat.le_refl _
  · rw [hl]; exact Nat.mul_le_mul_right _ hc

theorem hAppend_ok (hT : TyOk P B) {nk : Nat} {t : Nat} {ts : List Nat} {x y : Operand} {κ : V → Hp → Nat → Option R} (hh : hAppend B E h nk x y t ts κ = some r) : ∃ u h' nk', κ u h' nk' = some r ∧ HOk P E h nk (.call ⟨.builtin .append, #[x, y], (t :: ts).toArray⟩) u h' nk' := by
  obtain ⟨s, h1, h2⟩ := opv_some (show opv E x _ = some r from hh)
  obtain ⟨p, h3, h4⟩ := opv_some h2
  obtain ⟨hcond, h5⟩ := cond_some h4
  obtain ⟨hsl, hsec⟩ := and_split hcond
  split at h5
  · rename_i es et by_ hslt
    obtain ⟨i, z, a1, a2, a3, a4, a5, a6, a7⟩ := hT.sl _ _ _ _ hslt
    obtain ⟨zs, hzs⟩ : ∃ zs : List Value, z.cells = zs.toArray := ⟨z.cells.toList, by simp⟩
    have hzl : zs.length = es := by rw [hzs] at a7; simpa using a7
    obtain ⟨hsrc, h6⟩ := cond_some h5
    obtain ⟨n, h7, hlen, hcells⟩ := source_ok (P := P) (h := h) hsrc h6
    rw [natK_eq] at h7
    obtain ⟨new, h8, hnl, hnew⟩ := hcells h7
    obtain ⟨len, h9, hlen2, hshape⟩ := vlen_eq h8 hsl
    rw [natK_eq] at h9
    obtain ⟨hcond2, h10⟩ := cond_some h9
    obtain ⟨hb1, hb2⟩ := and_split hcond2
    have hb1 : (2 * (len + n) + 1024) * by_ ≤ 281474976710656 := Nat.le_of_ble_eq_true hb1
    have hb2 : len + n ≤ 1099511627776 := Nat.le_of_ble_eq_true hb2
    have hnl : new.length = n * es := hnl
    have etot : len.add n = len + n := rfl
    have fin : ∀ {ev : Operand → Value} {w w' : World} {u : Value}, (∀ ty, (Builtin.append_ (t :: ts).toArray ty #[ev x, ev y]).run P w = .ok u w') → ∀ oo : Oper, oo.op = .call ⟨.builtin .append, #[x, y], (t :: ts).toArray⟩ → (execOp ev oo).run P w = .ok (.value u) w' := by
      intro ev w w' u e oo eo
      have := e oo.type
      simp [execOp, eo, resolve, invoke, builtin, this]
    have ox : ∀ {L ρ} {ev : Operand → Value}, (∀ z ∈ (Op.call ⟨.builtin .append, #[x, y], (t :: ts).toArray⟩).operands.toList, Od L ρ E ev z) → rel L ρ s (ev x) ∧ rel L ρ p (ev y) := fun ho => ⟨ho x (by simp [Op.operands, Call.operands]) _ h1, ho y (by simp [Op.operands, Call.operands]) _ h3⟩
    -- nothing is appended
    have none_ : n = 0 → κ s h nk = some r → (∀ L ρ xv base cap, rel L ρ s xv → xv = .slice base len cap → len ≤ cap) → ∃ u h' nk', κ u h' nk' = some r ∧ HOk P E h nk (.call ⟨.builtin .append, #[x, y], (t :: ts).toArray⟩) u h' nk' := by
      intro hn hk hcap
      subst hn
      refine ⟨s, h, nk, hk, HOk.keep (fun L ρ fr ev w ho hs => ?_) nk⟩
      obtain ⟨hx, hy⟩ := ox ho
      obtain ⟨base, cap, ex⟩ := hshape hx
      obtain ⟨xs, e1, e2, e3⟩ := hnew L ρ fr w _ hs hy
      have : xs = [] := List.eq_nil_of_length_eq_zero (by rw [e2]; exact Nat.zero_mul es)
      subst this
      refine ⟨_, ev x, w, fin (fun ty => ?_), .inl rfl, Frm.refl w, hx, hs⟩
      rw [ex]
      exact append_fit hT hsec a1 a2 a3 (hlen L ρ _ w hy) (hcap L ρ _ _ _ hx ex) (e3 0 rfl) (fun a _ => rfl) (fun _ => rfl)
    -- the slice grows into a new block
    have grows : ∀ {old : List V} {h1' : Hp}, (∀ L ρ fr (w : World) xv, Sat L ρ h.get fr w.heap → rel L ρ s xv → ∃ (xs : List Value) (base : Option Addr) (cap : Nat), rels L ρ old xs ∧ xs.length = len * es ∧ xv = .slice base len cap ∧ ¬ len + n ≤ cap ∧ (Builtin.firstCells es len xv).run P (drew1 w) = .ok xs.toArray (drew1 w)) →
        (∀ L ρ fr hp, Sat L ρ h.get fr hp → Sat L ρ h1'.get fr hp) → (newK h1' nk (.o (some es) (old ++ new) et) fun h' nk' => κ (.vec nk (len + n)) h' nk') = some r → ∃ u h' nk', κ u h' nk' = some r ∧ HOk P E h nk (.call ⟨.builtin .append, #[x, y], (t :: ts).toArray⟩) u h' nk' := by
      intro old h1' hold hless hk
      obtain ⟨h', g1, g2⟩ := newK_some hk
      refine ⟨_, h', _, g1, Nat.le_succ _, fun L ρ fr ev w ho hs hbd => ?_⟩
      have hnk : ¬ L nk := fun hl => Nat.lt_irrefl _ (hbd nk hl)
      obtain ⟨hx, hy⟩ := ox ho
      obtain ⟨os, base, cap, o1, o2, ex, o3, o4⟩ := hold L ρ fr w _ hs hx
      obtain ⟨xs, e1, e2, e3⟩ := hnew L ρ fr (drew1 w) _ hs hy
      rw [ex] at o4
      obtain ⟨newCap, zz, c1, c2, c3⟩ := append_grow (ty := 0) hT hsec a1 a2 a3 a5 a6 hzs hzl (hlen L ρ _ w hy) o3 hb1 hb2 o4 (e3 n rfl)
      obtain ⟨L', ρ', d1, d2, d3, d4, d5⟩ := grow_sat (et := et) (hless L ρ fr _ hs) hnk (rels_append o1 e1) (tot := len + n) (es := es) (newCap := newCap) (zz := zz) (by rw [List.length_append, o2, e2, Nat.add_mul]; rfl) c1 c2
      refine ⟨_, .slice (some ⟨w.heap.size, 0, none⟩) (len + n) newCap, _, L', ρ', fin (fun ty => ?_), .inl rfl, d5, d1, fun k hk => ?_, d3, by rw [g2]; exact d4⟩
      · rw [ex]; exact c3
      · rcases (d2 k).1 hk with hk | rfl
        · exact ⟨Nat.lt_succ_of_lt (hbd k hk), .inl hk⟩
        · exact ⟨Nat.lt_succ_self _, .inr (Nat.le_refl _)⟩
    rw [etot] at h10
    split at h10
    · have hl0 : len = 0 := by have := hlen2 some; simp only [vlen, Option.some.injEq] at this; exact this.symm
      subst hl0
      cases hz : Nat.beq n 0 with
      | true =>
        rw [hz] at h10
        exact none_ (nat_beq hz) h10 (fun L ρ xv base cap _ _ => Nat.zero_le _)
      | false =>
        rw [hz] at h10
        have hz := nat_beq_ne hz
        refine grows (old := []) (h1' := h) (fun L ρ fr w xv hs hx => ?_) (fun L ρ fr hp hs => hs) (by rw [Nat.zero_add, List.nil_append]; exact h10)
        simp only [rel] at hx
        exact ⟨[], none, 0, rels_mk0, by simp, hx, by omega, by rw [hx]; simp [Builtin.firstCells]⟩
    · rename_i k off len' cap
      have hl0 : len' = len := by have := hlen2 some; simp only [vlen, Option.some.injEq] at this; exact this
      subst hl0
      cases hc : Nat.ble (len' + n) cap with
      | true =>
        rw [hc] at h10
        have hc := Nat.le_of_ble_eq_true hc
        cases hz : Nat.beq n 0 with
        | true =>
          rw [hz] at h10
          refine none_ (nat_beq hz) h10 (fun L ρ xv base cap' hx hx' => ?_)
          simp only [rel] at hx
          rw [hx.2] at hx'
          cases hx'
          omega
        | false =>
          rw [hz] at h10
          obtain ⟨a, cs0, T, h', g1, g2, g3, g4, g5⟩ := putO_some (show putO h k (off + len' * es) new _ = some r from h10)
          refine ⟨_, h', nk, g1, HOk.keep (fun L ρ fr ev w ho hs => ?_) nk⟩
          obtain ⟨hx, hy⟩ := ox ho
          obtain ⟨xs, e1, e2, e3⟩ := hnew L ρ fr w _ hs hy
          obtain ⟨w', s1, s2, s3⟩ := store_cells (P := P) new xs (off := off + len' * es) 0 hs g2 (by omega) e1 g5
          simp only [rel] at hx
          refine ⟨_, .slice (some ⟨(ρ k).b, (ρ k).base + off, none⟩) (len' + n) cap, w', fin (fun ty => ?_), .inl rfl, s3, by simp [rel, hx.1], by rw [g3]; simpa using s2⟩
          rw [hx.2]
          refine append_fit hT hsec a1 a2 a3 (hlen L ρ _ w hy) hc (e3 n rfl) (fun a ha => ?_) (fun e => by cases e)
          cases ha
          rw [add_lit, Nat.add_assoc]
          exact s1
      | false =>
        rw [hc] at h10
        have hc : ¬ len' + n ≤ cap := fun hle => by rw [Nat.ble_eq_true_of_le hle] at hc; cases hc
        obtain ⟨old, g1, g2, g3, _⟩ := cellsAt_some (P := P) (show cellsAt h (len' * es) (.sl k off len' cap) (fun old => appK old new fun cs => newK h nk (.o (some es) cs et) fun h' nk' => κ (.vec nk (len' + n)) h' nk') = some r from h10)
        rw [appK_eq] at g1
        refine grows (old := old) (h1' := h) (fun L ρ fr w xv hs hx => ?_) (fun L ρ fr hp hs => hs) g1
        obtain ⟨xs, e1, e2, e3⟩ := g3 rfl L ρ fr (drew1 w) xv hs hx
        simp only [rel] at hx
        exact ⟨xs, _, cap, e1, e2, hx.2, hc, e3 es len' rfl⟩
    · rename_i k len'
      have hl0 : len' = len := by have := hlen2 some; simp only [vlen, Option.some.injEq] at this; exact this
      subst hl0
      cases hz : Nat.beq n 0 with
      | true =>
        rw [hz] at h10
        refine none_ (nat_beq hz) h10 (fun L ρ xv base cap' hx hx' => ?_)
        simp only [rel] at hx
        obtain ⟨_, ⟨_, hl, e⟩ | ⟨_, hl, e⟩⟩ := hx
        · omega
        · rw [e] at hx'; cases hx'; exact hl
      | false =>
        rw [hz] at h10
        have hz := nat_beq_ne hz
        obtain ⟨a, cs0, T, g1, g2⟩ := asObj_some (show asObj h k _ = some r from h10)
        split at g2
        · rename_i es'
          obtain ⟨hc, g3⟩ := cond_some g2
          obtain ⟨hc, hone⟩ := and_split hc
          obtain ⟨hc1, hc2⟩ := and_split hc
          have := nat_beq hc1; subst this
          have := nat_beq hc2; subst this
          rw [lenK_eq0] at g3
          cases hf : Nat.ble ((len' + n) * es) cs0.length with
          | true =>
            rw [show Nat.mul (len' + n) es = (len' + n) * es from rfl, hf] at g3
            have hf := Nat.le_of_ble_eq_true hf
            obtain ⟨a', cs1, T', h', k1, k2, k3, k4, k5⟩ := putO_some (show putO h k (len' * es) new _ = some r from g3)
            rw [g1] at k2; cases k2
            refine ⟨_, h', nk, k1, HOk.keep (fun L ρ fr ev w ho hs => ?_) nk⟩
            obtain ⟨hx, hy⟩ := ox ho
            obtain ⟨xs, e1, e2, e3⟩ := hnew L ρ fr w _ hs hy
            obtain ⟨w', s1, s2, s3⟩ := store_cells (P := P) new xs (off := len' * es) 0 hs g1 (by omega) e1 hone
            have hpos : 0 < (len' + n) * es := Nat.mul_pos (by omega) (Nat.pos_of_ne_zero a4)
            rcases hs.obj k _ g1 with ⟨_, hcs⟩ | ⟨hnil, us, ys, zz, f, q1, q2, q3, q4, q5, q6⟩
            · subst hcs; simp at hf; omega
            · have hcap : len' + n ≤ (ρ k).cap := by
                have := rels_length q4
                exact Nat.le_of_mul_le_mul_right (by omega : (len' + n) * es ≤ (ρ k).cap * es) (Nat.pos_of_ne_zero a4)
              simp only [rel] at hx
              obtain ⟨hL, ⟨hn, _, _⟩ | ⟨_, hl, ex⟩⟩ := hx
              · rw [hnil] at hn; cases hn
              · refine ⟨_, .slice (some ⟨(ρ k).b, (ρ k).base, none⟩) (len' + n) (ρ k).cap, w', fin (fun ty => ?_), .inl rfl, s3, by simp [rel, hL, hnil, hcap], by rw [k3]; simpa using s2⟩
                rw [ex]
                refine append_fit hT hsec a1 a2 a3 (hlen L ρ _ w hy) hcap (e3 n rfl) (fun a ha => ?_) (fun e => by cases e)
                cases ha
                rw [add_lit]
                exact s1
          | false =>
            rw [show Nat.mul (len' + n) es = (len' + n) * es from rfl, hf] at g3
            obtain ⟨k1, k2⟩ := segK_some (show segK cs0 0 (len' * es) (fun old => appK old new fun cs' => Tr.delK h k fun h' => newK h' nk (.o (some es) cs' et) fun h'' nk' => κ (.vec nk (len' + n)) h'' nk') = some r from g3)
            rw [appK_eq, List.drop_zero] at k1
            obtain ⟨h1', k3, k4⟩ := Tr.delK_some k1
            have k4 := del_delT k4
            have k2 : len' * es ≤ cs0.length := by simpa using k2
            obtain ⟨h', k5, k6⟩ := newK_some k3
            refine ⟨_, h', _, k5, Nat.le_succ _, fun L ρ fr ev w ho hs hbd => ?_⟩
            have hnk : ¬ L nk := fun hl => Nat.lt_irrefl _ (hbd nk hl)
            obtain ⟨hx, hy⟩ := ox ho
            have hsd : ∀ {hp}, Sat L ρ h.get fr hp → Sat L ρ h1'.get fr hp := fun hs => by rw [k4]; exact hs.del k
            have hbd' : ∀ {L' : Nat → Prop}, (∀ k, L' k ↔ L k ∨ k = nk) → ∀ k, L' k → k < nk + 1 ∧ (L k ∨ nk ≤ k) := by
              intro L' d2 k hk
              rcases (d2 k).1 hk with hk | rfl
              · exact ⟨Nat.lt_succ_of_lt (hbd k hk), .inl hk⟩
              · exact ⟨Nat.lt_succ_self _, .inr (Nat.le_refl _)⟩
            simp only [rel] at hx
            obtain ⟨hL, ⟨hn, hl0, ex⟩ | ⟨hn, hl, ex⟩⟩ := hx
            · -- a nil slice
              subst hl0
              obtain ⟨xs, e1, e2, e3⟩ := hnew L ρ fr (drew1 w) _ hs hy
              obtain ⟨newCap, zz, c1, c2, c3⟩ := append_grow (ty := 0) (base := none) (sLen := 0) (sCap := 0) (old := []) hT hsec a1 a2 a3 a5 a6 hzs hzl (hlen L ρ _ w hy) (by omega) hb1 hb2 (by simp [Builtin.firstCells]) (e3 n rfl)
              obtain ⟨L', ρ', d1, d2, d3, d4, d5⟩ := grow_sat (et := et) (hsd hs) hnk e1 (tot := 0 + n) (es := es) (newCap := newCap) (zz := zz) (by rw [e2, Nat.zero_add]; rfl) c1 c2
              refine ⟨_, .slice (some ⟨w.heap.size, 0, none⟩) (0 + n) newCap, _, L', ρ', fin (fun ty => ?_), .inl rfl, d5, d1, hbd' d2, d3, ?_⟩
              · rw [ex]; exact c3
              · rw [k6]
                simpa using d4
            · rcases hs.obj k _ g1 with ⟨hn', _⟩ | ⟨_, us, ys, zz, f, q1, q2, q3, q4, q5, q6⟩
              · rw [hn] at hn'; cases hn'
              have hys := rels_length q4
              by_cases hcap : len' + n ≤ (ρ k).cap
              · -- there is room
                obtain ⟨xs, e1, e2, e3⟩ := hnew L ρ fr w _ hs hy
                have hroom : (len' + n) * es ≤ (ρ k).cap * es := Nat.mul_le_mul_right _ hcap
                have hsplit : (len' + n) * es = len' * es + n * es := Nat.add_mul _ _ _
                have e2 : xs.length = n * es := e2
                obtain ⟨w', s1, s2, s3, s4⟩ := store_raw (P := P) (o := (ρ k).base + len' * es) xs 0 _ w q1 q2 (by omega) (allOne_cells hone e1)
                have hspl := splice_eq xs (us ++ ys ++ zz) ((ρ k).base + len' * es + 0) (by omega)
                have hrow : splice (us ++ ys ++ zz) ((ρ k).base + len' * es + 0) xs = us ++ (ys.take (len' * es) ++ xs) ++ (us ++ ys ++ zz).drop ((ρ k).base + len' * es + xs.length) := by
                  rw [hspl, Nat.add_zero, ← q3]
                  rw [List.append_assoc us ys zz, List.take_append, List.take_of_length_le (by omega), Nat.add_sub_cancel_left, List.take_append_of_le_length (by omega)]
                  simp [List.append_assoc]
                rw [hrow] at s2
                have hown : owns (ρ k) (.o (some es) cs0 et) := hn
                have hoff : Sat L ρ h1'.get fr w'.heap := by
                  rw [k4]
                  refine (hs.del k).off (ρ k).b (hs.dis k _ g1 hown) (fun t o ht hw e => ?_) s3
                  simp only [delT] at ht
                  split at ht
                  · cases ht
                  · rename_i hne
                    exact hne (hs.inj _ _ _ _ ht g1 hw hown e)
                have hlc : ({ b := (ρ k).b, base := (ρ k).base, cap := (ρ k).cap, nil := false } : Loc) = ρ k := by rw [← hn]
                have hadd := hoff.add nk hnk (ρ k) (.o (some es) (cs0.take (len' * es) ++ new) et) (fun _ => ⟨hs.dis k _ g1 hown, fun t o ht hw e => by
                  rw [k4] at ht
                  simp only [delT] at ht
                  split at ht
                  · cases ht
                  · rename_i hne
                    exact hne (hs.inj _ _ _ _ ht g1 hw hown e)⟩) (.inr ⟨hn, us, ys.take (len' * es) ++ xs, _, f, s2, ?_, q3, rels_append (rels_take _ q4) e1, ?_, ?_⟩)
                rotate_left
                · intro i hi
                  refine q2 i ?_
                  have hrl := congrArg List.length hrow
                  rw [splice_length] at hrl
                  rw [hrl]
                  exact hi
                · simp only [List.length_append, List.length_take, List.length_drop] at q5 ⊢
                  omega
                · simp only [List.length_append, List.length_take]
                  omega
                refine ⟨_, .slice (some ⟨(ρ k).b, (ρ k).base, none⟩) (len' + n) (ρ k).cap, w', _, _, fin (fun ty => ?_), .inl rfl, s4, updρ_ext hnk _, fun j hj => ?_, ?_, by rw [k6]; exact hadd⟩
                · rw [ex]
                  refine append_fit hT hsec a1 a2 a3 (hlen L ρ _ w hy) hcap (e3 n rfl) (fun a ha => ?_) (fun e => by cases e)
                  cases ha
                  rw [add_lit]
                  exact s1
                · rcases hj with hj | rfl
                  · exact ⟨Nat.lt_succ_of_lt (hbd j hj), .inl hj⟩
                  · exact ⟨Nat.lt_succ_self _, .inr (Nat.le_refl _)⟩
                · simp [rel, updρ, hn, hcap]
              · obtain ⟨xs, e1, e2, e3⟩ := hnew L ρ fr (drew1 w) _ hs hy
                obtain ⟨os, o1, o2, o3⟩ := Sat.loads (P := P) (w := drew1 w) hs g1 (n := len' * es) (off := 0) (by simpa [BO.cs] using k2)
                simp only [BO.cs, List.drop_zero] at o1
                obtain ⟨newCap, zz', c1, c2, c3⟩ := append_grow (ty := 0) (base := some ⟨(ρ k).b, (ρ k).base, none⟩) (sLen := len') (sCap := (ρ k).cap) (old := os) hT hsec a1 a2 a3 a5 a6 hzs hzl (hlen L ρ _ w hy) hcap hb1 hb2 (by simpa [Builtin.firstCells] using o3) (e3 n rfl)
                obtain ⟨L', ρ', d1, d2, d3, d4, d5⟩ := grow_sat (et := et) (hsd hs) hnk (rels_append o1 e1) (tot := len' + n) (es := es) (newCap := newCap) (zz := zz') (by rw [List.length_append, o2, e2, Nat.add_mul]; rfl) c1 c2
                refine ⟨_, .slice (some ⟨w.heap.size, 0, none⟩) (len' + n) newCap, _, L', ρ', fin (fun ty => ?_), .inl rfl, d5, d1, hbd' d2, d3, by rw [k6]; exact d4⟩
                rw [ex]; exact c3
        · cases g2
    · cases h10
  · cases h5
end
end Go.Kn
