/-
  The engine is right: operations that change the heap (3): copy, clear, append. Conditions: none.
-/
import Derived.Test.YtadmmpbojefdeaaGreatKn13
namespace Go.Kn
open Go
variable {R : Type} {r : R}

section
variable {P : Program} {B : Tb} {E : En} {h : Hp}

theorem baseK_some {v : V} {κ : Nat → Nat → Option R} (hh : baseK v κ = some r) : ∃ k off, κ k off = some r ∧ ∀ {L ρ x}, rel L ρ v x → ∀ {n}, (∀ κ' : Nat → Option Nat, vlen v κ' = κ' n) → 0 < n → ∃ cap, x = .slice (some ⟨(ρ k).b, (ρ k).base + off, none⟩) n cap := by
  unfold baseK at hh
  split at hh
  · refine ⟨_, _, hh, fun {L ρ x} hx {n} hn hp => ?_⟩
    have := hn some
    simp only [vlen, Option.some.injEq] at this
    simp only [rel] at hx
    exact ⟨_, by rw [← this]; exact hx.2⟩
  · refine ⟨_, _, hh, fun {L ρ x} hx {n} hn hp => ?_⟩
    have := hn some
    simp only [vlen, Option.some.injEq] at this
    subst this
    simp only [rel] at hx
    obtain ⟨_, a, c, hx, _, ha⟩ := hx
    exact ⟨c, by rw [hx, ha hp]⟩
  · refine ⟨_, _, hh, fun {L ρ x} hx {n} hn hp => ?_⟩
    have := hn some
    simp only [vlen, Option.some.injEq] at this
    subst this
    obtain ⟨_, _, _, hx⟩ := rel_vec_pos hx hp
    exact ⟨_, hx⟩
  · cases hh

theorem vlen_eq {v : V} {κ : Nat → Option R} (hh : vlen v κ = some r) (hs : isSlV v = true) : ∃ n, κ n = some r ∧ (∀ κ' : Nat → Option Nat, vlen v κ' = κ' n) ∧ ∀ {L ρ x}, rel L ρ v x → ∃ a cap, x = .slice a n cap := by
  cases v <;> simp only [isSlV, Bool.false_eq_true] at hs <;> simp only [vlen] at hh
  · exact ⟨_, hh, fun _ => rfl, fun hx => by simp only [rel] at hx; exact ⟨_, _, hx.2⟩⟩
  · exact ⟨_, hh, fun _ => rfl, fun hx => by simp only [rel] at hx; obtain ⟨_, a, c, hx, _⟩ := hx; exact ⟨_, _, hx⟩⟩
  · refine ⟨_, hh, fun _ => rfl, fun hx => ?_⟩
    simp only [rel] at hx
    obtain ⟨_, ⟨_, hl, hx⟩ | ⟨_, _, hx⟩⟩ := hx
    · exact ⟨_, _, by rw [hl]; exact hx⟩
    · exact ⟨_, _, hx⟩
  · exact ⟨_, hh, fun _ => rfl, fun hx => by simp only [rel] at hx; exact ⟨_, _, hx⟩⟩

/-- The cells that are read from a slice, or from a string. -/
theorem source_ok {es : Nat} {v : V} (hsrc : (isSlV v || Nat.beq es 1) = true) {κ : Nat → Option R} (hh : vlen v κ = some r) : ∃ m, κ m = some r ∧ (∀ L ρ x w, rel L ρ v x → (Builtin.lenOf x).run P w = .ok m w) ∧
    ∀ {R' : Type} {r' : R'} {q : Nat} {κ' : List V → Option R'}, cellsAt h q v κ' = some r' → ∃ cs, κ' cs = some r' ∧ cs.length = q ∧ ∀ L ρ fr w x, Sat L ρ h.get fr w.heap → rel L ρ v x → ∃ xs : List Value, rels L ρ cs xs ∧ xs.length = q ∧ ∀ n, n * es = q → (Builtin.firstCells es n x).run P w = .ok xs.toArray w := by
  obtain ⟨m, h1, ⟨h2, h3⟩ | ⟨l, rfl, rfl⟩⟩ := vlen_some hh
  · refine ⟨m, h1, fun L ρ x w hx => ?_, fun {R' r' q κ'} hc => ?_⟩
    · obtain ⟨a, c, rfl⟩ := h3 L ρ x hx
      rfl
    · obtain ⟨cs, g1, g2, g3, _⟩ := cellsAt_some (P := P) hc
      refine ⟨cs, g1, g2, fun L ρ fr w x hs hx => ?_⟩
      obtain ⟨xs, e1, e2, e3⟩ := g3 h2 L ρ fr w x hs hx
      exact ⟨xs, e1, e2, fun n hn => e3 es n hn⟩
  · have he : es = 1 := by simpa [isSlV] using hsrc
    subst he
    refine ⟨_, h1, fun L ρ x w hx => ?_, fun {R' r' q κ'} hc => ?_⟩
    · obtain ⟨rfl, _⟩ := od_bs hx
      simp [Builtin.lenOf, bt_size]
    · obtain ⟨cs, g1, g2, _, g4⟩ := cellsAt_some (P := P) hc
      obtain ⟨g5, g6⟩ := g4 l rfl
      refine ⟨cs, g1, g2, fun L ρ fr w x hs hx => ?_⟩
      obtain ⟨rfl, hl⟩ := od_bs hx
      have hl' : ∀ b ∈ l.take q, b < 256 := fun b hb => hl b (List.mem_of_mem_take hb)
      refine ⟨((l.take q).map UInt8.ofNat).map fun b => Value.int .u8 b.toNat, by rw [g5]; exact rels_bytes _ hl', by simp; omega, fun n hn => ?_⟩
      have hn : n = q := by omega
      subst hn
      have := bt_extract l 0 n
      rw [Nat.zero_add, List.drop_zero] at this
      simp only [Builtin.firstCells, this, Sem.run_pure]
      congr 1
      apply Array.ext'
      simp [bt]

theorem hCopy_ok (hT : TyOk P B) {ats : List TypeId} {t : Nat} {x y : Operand} {κ : V → Hp → Option R} (hh : hCopy B E h x y t κ = some r) : ∃ u h', κ u h' = some r ∧ ∀ nk, HOk P E h nk (.call ⟨.builtin .copy, #[x, y], (t :: ats).toArray⟩) u h' nk := by
  obtain ⟨d, h1, h2⟩ := opv_some (show opv E x _ = some r from hh)
  obtain ⟨s, h3, h4⟩ := opv_some h2
  obtain ⟨hd, h5⟩ := cond_some h4
  split at h5
  · rename_i es et by_ hsl
    obtain ⟨i, z, a1, a2, a3, a4, _⟩ := hT.sl _ _ _ _ hsl
    obtain ⟨hsrc, h6⟩ := cond_some h5
    obtain ⟨n, h7, h8, h9⟩ := vlen_eq h6 hd
    obtain ⟨m, h10, h11, h12⟩ := source_ok (P := P) (h := h) hsrc h7
    have hmin : ∃ c, c = Nat.min m n ∧ (natK (Nat.mul c es) fun q => cellsAt h q s fun cs => (bif Nat.beq q 0 then κ (.int .i64 (.ofNat c)) h
      else baseK d fun k off => putO h k off cs fun h' => κ (.int .i64 (.ofNat c)) h')) = some r := by
      unfold minK at h10
      cases hb : Nat.ble m n with
      | true => rw [hb] at h10; exact ⟨m, (Nat.min_eq_left (Nat.le_of_ble_eq_true hb)).symm, h10⟩
      | false =>
        rw [hb] at h10
        have : ¬ m ≤ n := fun hle => by rw [Nat.ble_eq_true_of_le hle] at hb; cases hb
        exact ⟨n, (Nat.min_eq_right (by omega)).symm, h10⟩
    obtain ⟨c, hc, h13⟩ := hmin
    rw [natK_eq] at h13
    have hq : c.mul es = c * es := rfl
    rw [hq] at h13
    obtain ⟨cs, h14, h15, h16⟩ := h12 h13
    have run : ∀ {L ρ} {ev : Operand → Value} {w w' : World} {xs : List Value} {a : Option Addr} {cap : Nat}, rel L ρ s (ev y) → ev x = .slice a n cap → (Builtin.firstCells es c (ev y)).run P w = .ok xs.toArray w → (∀ a0, a = some a0 → (storeCells a0 xs).run P w = .ok () w') → (a = none → w' = w) →
        ∀ oo : Oper, oo.op = .call ⟨.builtin .copy, #[x, y], (t :: ats).toArray⟩ → (execOp ev oo).run P w = .ok (.value (.int .i64 c)) w' := by
      intro L ρ ev w w' xs a cap hy hx hf hst hnone oo eo
      have key : (Builtin.copy_ (t :: ats).toArray oo.type #[ev x, ev y]).run P w = .ok (goInt c) w' := by
        simp only [Builtin.copy_, List.getElem?_toArray, List.getElem?_cons_zero, List.getElem?_cons_succ, Sem.run_bind, run_underlying a1, Result.andThen_ok, hx, h11 L ρ _ w hy, run_sizeOf a2, a3, ← hc, hf]
        cases a with
        | none => rw [hnone rfl]; rfl
        | some a0 => simp only [Sem.run_bind, hst a0 rfl, Result.andThen_ok]; rfl
      simp only [execOp, eo, resolve, Sem.run_bind, Sem.run_pure, Result.andThen_ok, invoke, builtin]
      simp [key, goInt]
    cases hz : Nat.beq (c * es) 0 with
    | true =>
      rw [hz] at h14
      have hz := nat_beq hz
      refine ⟨_, h, h14, HOk.keep fun L ρ fr ev w ho hs => ?_⟩
      have hx := ho x (by simp [Op.operands, Call.operands]) _ h1
      have hy := ho y (by simp [Op.operands, Call.operands]) _ h3
      obtain ⟨a, cap, ex⟩ := h9 hx
      obtain ⟨xs, e1, e2, e3⟩ := h16 L ρ fr w _ hs hy
      have : xs = [] := List.eq_nil_of_length_eq_zero (by omega)
      subst this
      exact ⟨_, .int .i64 c, w, run (L := L) (ρ := ρ) hy ex (e3 c rfl) (fun a0 _ => rfl) (fun _ => rfl), .inl rfl, Frm.refl w, by simp only [rel]; rfl, hs⟩
    | false =>
      rw [hz] at h14
      have hz := nat_beq_ne hz
      obtain ⟨k, off, h17, h18⟩ := baseK_some (show baseK d _ = some r from h14)
      obtain ⟨a, cs0, T, h', g1, g2, g3, g4, g5⟩ := putO_some h17
      refine ⟨_, h', g1, HOk.keep fun L ρ fr ev w ho hs => ?_⟩
      have hx := ho x (by simp [Op.operands, Call.operands]) _ h1
      have hy := ho y (by simp [Op.operands, Call.operands]) _ h3
      have hpos : 0 < n := by
        rcases Nat.eq_zero_or_pos n with h0 | h0
        · subst h0
          have : c = 0 := by rw [hc]; exact Nat.min_zero m
          subst this; simp at hz
        · exact h0
      obtain ⟨cap, ex⟩ := h18 hx h8 hpos
      obtain ⟨xs, e1, e2, e3⟩ := h16 L ρ fr w _ hs hy
      obtain ⟨w', s1, s2, s3⟩ := store_cells (P := P) cs xs (off := off) 0 hs g2 (by omega) e1 g5
      exact ⟨_, .int .i64 c, w', run (L := L) (ρ := ρ) hy ex (e3 c rfl) (fun a0 ha => by cases ha; exact s1) (fun e => by cases e), .inl rfl, s3, by simp only [rel]; rfl, by rw [g3]; simpa using s2⟩
  · cases h5

theorem hClear_ok (hT : TyOk P B) {ats : List TypeId} {t : Nat} {x : Operand} {κ : Hp → Option R} (hh : hClear B E h x t κ = some r) : ∃ h', κ h' = some r ∧ ∀ nk, HOk P E h nk (.call ⟨.builtin .clear, #[x], (t :: ats).toArray⟩) (.tup []) h' nk := by
  obtain ⟨d, h1, h2⟩ := opv_some (show opv E x _ = some r from hh)
  obtain ⟨hd, h3⟩ := cond_some h2
  split at h3
  · rename_i es et by_ hsl
    obtain ⟨i, z, a1, a2, a3, a4, _⟩ := hT.sl _ _ _ _ hsl
    obtain ⟨n, h7, h8, h9⟩ := vlen_eq h3 hd
    have fin : ∀ {ev : Operand → Value} {w w' : World}, (∀ ty, (Builtin.clear_ (t :: ats).toArray ty #[ev x]).run P w = .ok (.tuple #[]) w') → ∀ oo : Oper, oo.op = .call ⟨.builtin .clear, #[x], (t :: ats).toArray⟩ → (execOp ev oo).run P w = .ok (.value (.tuple #[])) w' := by
      intro ev w w' e oo eo
      have := e oo.type
      simp [execOp, eo, resolve, invoke, builtin, this]
    cases hz : Nat.beq n 0 with
    | true =>
      rw [hz] at h7
      have hz := nat_beq hz
      subst hz
      refine ⟨h, h7, HOk.keep fun L ρ fr ev w ho hs => ?_⟩
      have hx := ho x (by simp [Op.operands, Call.operands]) _ h1
      obtain ⟨a, cap, ex⟩ := h9 hx
      refine ⟨_, .tuple #[], w, fin (fun ty => ?_), .inl rfl, Frm.refl w, by simp [rel, rels], hs⟩
      cases a <;> simp [Builtin.clear_, ex, run_underlying a1]
    | false =>
      rw [hz] at h7
      have hz := nat_beq_ne hz
      obtain ⟨zs, i', z', xs, b1, b2, b3, b4, b5, b6, b7, b8, b9, b10⟩ := zeros_of hT hsl (show zerosK B et _ = some r from h7)
      rw [repK_eq] at b1
      obtain ⟨k, off, h17, h18⟩ := baseK_some b1
      obtain ⟨a, cs0, T, h', g1, g2, g3, g4, g5⟩ := putO_some h17
      refine ⟨h', g1, HOk.keep fun L ρ fr ev w ho hs => ?_⟩
      have hx := ho x (by simp [Op.operands, Call.operands]) _ h1
      obtain ⟨cap, ex⟩ := h18 hx h8 (by omega)
      obtain ⟨w', s1, s2, s3⟩ := store_cells (P := P) _ _ (off := off) 0 hs g2 (by omega) (rels_flatten (b10 L ρ) n) g5
      refine ⟨_, .tuple #[], w', fin (fun ty => ?_), .inl rfl, s3, by simp [rel, rels], by rw [g3]; simpa using s2⟩
      have hzc : (Builtin.zeroCells z'.cells n) = (List.replicate n xs).flatten.toArray := by
        rw [b8, ← range_mod xs n]; simp [Builtin.zeroCells]
      obtain ⟨n', rfl⟩ : ∃ n', n = n' + 1 := ⟨n - 1, by omega⟩
      simp only [Builtin.clear_, List.getElem?_toArray, List.getElem?_cons_zero, Sem.run_bind, run_underlying a1, Result.andThen_ok, ex, run_zeroValue b3 b7, hzc, s1]
      rfl
  · cases h3
end
end Go.Kn
