/-
  The engine is right: operations that leave the heap alone (3). Conditions: none.
-/
import Derived.Test.YtadmmpbojefdeaaGreatKn7
namespace Go.Kn
open Go
variable {R : Type} {r : R}

section
variable {P : Program} {B : Tb} {E : En} {h : Hp}

/-! Numbers, comparisons. -/
theorem qShl_ok {t : Nat} {x y : Operand} {κ : V → Option R} (hh : qShl E x y κ = some r) : ∃ v, κ v = some r ∧ Qs P E h [x, y] (fun ev => do eqGuard .shl t x y (ev x) (ev y); binOp .shl t (ev x) (ev y)) v := by
  obtain ⟨a, h1, h2⟩ := opv_some (show opv E x _ = some r from hh)
  obtain ⟨b, h3, h4⟩ := opv_some h2
  split at h4
  · rename_i k a k' n
    rw [intFK_eq] at h4
    refine ⟨_, h4, fun L ρ fr ev w ho _ => ⟨_, (by simp only [rel]; rfl), ?_⟩⟩
    have ex := od_int (ho x (by simp)) h1
    have ey := od_int (ho y (by simp)) h3
    have e : Int.ofNat n = (n : Int) := rfl
    rw [e] at ey
    simp only [ex, ey, eqGuard_shl, binOp_shl, Op.shift, Sem.run_bind, Sem.run_pure, Result.andThen_ok]
    rw [if_neg (by omega)]
    simp
  · cases h4

theorem qShr_ok {t : Nat} {x y : Operand} {κ : V → Option R} (hh : qShr E x y κ = some r) : ∃ v, κ v = some r ∧ Qs P E h [x, y] (fun ev => do eqGuard .shr t x y (ev x) (ev y); binOp .shr t (ev x) (ev y)) v := by
  obtain ⟨a, h1, h2⟩ := opv_some (show opv E x _ = some r from hh)
  obtain ⟨b, h3, h4⟩ := opv_some h2
  split at h4
  · rename_i k a k' n
    rw [intFK_eq] at h4
    refine ⟨_, h4, fun L ρ fr ev w ho _ => ⟨_, (by simp only [rel]; rfl), ?_⟩⟩
    have ex := od_int (ho x (by simp)) h1
    have ey := od_int (ho y (by simp)) h3
    have e : Int.ofNat n = (n : Int) := rfl
    rw [e] at ey
    simp only [ex, ey, eqGuard_shr, binOp_shr, Op.shift, Sem.run_bind, Sem.run_pure, Result.andThen_ok]
    rw [if_neg (by omega)]
    simp
  · cases h4

theorem qQuo_ok {t : Nat} {x y : Operand} {κ : V → Option R} (hh : qQuo E x y κ = some r) : ∃ v, κ v = some r ∧ Qs P E h [x, y] (fun ev => do eqGuard .quo t x y (ev x) (ev y); binOp .quo t (ev x) (ev y)) v := by
  obtain ⟨a, h1, h2⟩ := opv_some (show opv E x _ = some r from hh)
  obtain ⟨b, h3, h4⟩ := opv_some h2
  split at h4
  · rename_i k a k' n
    obtain ⟨hk, h5⟩ := cond_some h4
    clear h4
    have := kEq_eq hk; subst this
    rw [intFK_eq] at h5
    refine ⟨_, h5, fun L ρ fr ev w ho _ => ⟨_, (by simp only [rel]; rfl), ?_⟩⟩
    have ex := od_int (ho x (by simp)) h1
    have ey := od_int (ho y (by simp)) h3
    have e : Int.ofNat (n + 1) = ((n + 1 : Nat) : Int) := rfl
    rw [e] at ey
    have hz : ¬ (((n + 1 : Nat) : Int) = 0) := by omega
    simp only [ex, ey, eqGuard_quo, binOp_quo, Op.intDiv, Sem.run_bind, Sem.run_pure, Result.andThen_ok, hz, if_false]
  · cases h4

theorem qRem_ok {t : Nat} {x y : Operand} {κ : V → Option R} (hh : qRem E x y κ = some r) : ∃ v, κ v = some r ∧ Qs P E h [x, y] (fun ev => do eqGuard .rem t x y (ev x) (ev y); binOp .rem t (ev x) (ev y)) v := by
  obtain ⟨a, h1, h2⟩ := opv_some (show opv E x _ = some r from hh)
  obtain ⟨b, h3, h4⟩ := opv_some h2
  split at h4
  · rename_i k a k' n
    obtain ⟨hk, h5⟩ := cond_some h4
    clear h4
    have := kEq_eq hk; subst this
    rw [intFK_eq] at h5
    refine ⟨_, h5, fun L ρ fr ev w ho _ => ⟨_, (by simp only [rel]; rfl), ?_⟩⟩
    have ex := od_int (ho x (by simp)) h1
    have ey := od_int (ho y (by simp)) h3
    have e : Int.ofNat (n + 1) = ((n + 1 : Nat) : Int) := rfl
    rw [e] at ey
    have hz : ¬ (((n + 1 : Nat) : Int) = 0) := by omega
    simp only [ex, ey, eqGuard_rem, binOp_rem, Op.intDiv, Sem.run_bind, Sem.run_pure, Result.andThen_ok, hz, if_false]
  · rename_i k a k' n
    obtain ⟨hk, h5⟩ := cond_some h4
    clear h4
    have := kEq_eq hk; subst this
    refine ⟨_, h5, fun L ρ fr ev w ho _ => ⟨_, (by simp only [rel]; rfl), ?_⟩⟩
    have ex : ev x = .int k a := by simpa only [rel] using ho x (by simp) _ h1
    have ey := od_int (ho y (by simp)) h3
    have e : Int.ofNat (n + 1) = ((n + 1 : Nat) : Int) := rfl
    rw [e] at ey
    have hz : ¬ (((n + 1 : Nat) : Int) = 0) := by omega
    simp only [ex, ey, eqGuard_rem, binOp_rem, Op.intDiv, Sem.run_bind, Sem.run_pure, Result.andThen_ok, hz, if_false]
  · cases h4

theorem rawK_ok {op : BinOp} {k : IntKind} {x y : Int} {κ : V → Option R} (hh : rawK op k x y κ = some r) :
    ∃ v u, κ v = some r ∧ (∀ L ρ, rel L ρ v u) ∧ ∀ (t : Nat) (p q : Operand) (w : World), ((do eqGuard op t p q (.int k x) (.int k y); binOp op t (.int k x) (.int k y) : Sem Value)).run P w = .ok u w := by
  unfold rawK at hh
  split at hh <;> first
    | (refine ⟨_, _, hh, fun L ρ => (by simp only [rel]; rfl), fun t p q w => ?_⟩; simp [go_sem, Op.intArith]; done)
    | cases hh

theorem iLe_iff (a b : Int) : (!iLt b a) = decide (a ≤ b) := by rw [iLt_iff, Bool.eq_iff_iff]; simp [Int.not_lt]

theorem intK_ok {op : BinOp} {k : IntKind} {x y : Int} {κ : V → Option R} (hh : intK op k x y κ = some r) :
    ∃ v u, κ v = some r ∧ (∀ L ρ, rel L ρ v u) ∧ ∀ (t : Nat) (p q : Operand) (w : World), ((do eqGuard op t p q (.int k x) (.int k y); binOp op t (.int k x) (.int k y) : Sem Value)).run P w = .ok u w := by
  unfold intK at hh
  split at hh <;> (try simp only [intFK_eq, boolK_eq] at hh) <;> first
    | (refine ⟨_, _, hh, fun L ρ => (by simp only [rel]; rfl), fun t p q w => ?_⟩; simp [go_sem, Op.intArith, iEq_iff, iLt_iff]; done)
    | (refine ⟨_, _, hh, fun L ρ => (by simp only [rel]; rfl), fun t p q w => ?_⟩; simp [go_sem, Op.intArith, iEq_iff, iLe_iff, bne]; done)
    | cases hh

theorem ansK_ok {op : BinOp} {b : Bool} {κ : V → Option R} (hh : ansK op b κ = some r) : (op = .eql ∧ κ (.bool b) = some r) ∨ (op = .neq ∧ κ (.bool (!b)) = some r) := by
  unfold ansK at hh
  split at hh
  · exact .inl ⟨rfl, by rwa [boolK_eq] at hh⟩
  · exact .inr ⟨rfl, by rwa [boolK_eq] at hh⟩
  · cases hh

theorem binOp_eq {t : Nat} {x y : Value} {b : Bool} {w : World} (hx : ∀ k n, x ≠ .int k n) (hs : ∀ s, x ≠ .string s) (hf : ∀ k n, x ≠ .float k n) (hc : ∀ k a b, x ≠ .complex k a b) (he : (Op.equal t x y).run P w = .ok b w) :
    (binOp .eql t x y).run P w = .ok (.bool b) w ∧ (binOp .neq t x y).run P w = .ok (.bool (!b)) w := by
  cases x <;> first
    | exact absurd rfl (hx _ _)
    | exact absurd rfl (hs _)
    | exact absurd rfl (hf _ _)
    | exact absurd rfl (hc _ _ _)
    | (constructor <;> (simp only [binOp, Sem.run_bind, he, Result.andThen_ok]; rfl))

/-- Whether two are the same. -/
theorem ans_ok {op : BinOp} {b : Bool} {κ : V → Option R} (hh : ansK op b κ = some r) : ∃ v u, κ v = some r ∧ (∀ L ρ, rel L ρ v u) ∧
    ∀ (t : Nat) (x y : Operand) (a c : Value) (w : World), (eqGuard op t x y a c).run P w = .ok () w → (binOp .eql t a c).run P w = .ok (.bool b) w ∧ (binOp .neq t a c).run P w = .ok (.bool (!b)) w → ((do eqGuard op t x y a c; binOp op t a c : Sem Value)).run P w = .ok u w := by
  rcases ansK_ok hh with ⟨rfl, h1⟩ | ⟨rfl, h1⟩
  · exact ⟨_, .bool b, h1, fun _ _ => by simp [rel], fun t x y a c w hg he => by simp only [Sem.run_bind, hg, Result.andThen_ok, he.1]⟩
  · exact ⟨_, .bool (!b), h1, fun _ _ => by simp [rel], fun t x y a c w hg he => by simp only [Sem.run_bind, hg, Result.andThen_ok, he.2]⟩

theorem strK_ok {op : BinOp} {l m : List Nat} (hl : ∀ b ∈ l, b < 256) (hm : ∀ b ∈ m, b < 256) {κ : V → Option R} (hh : strK op l m κ = some r) :
    ∃ v u, κ v = some r ∧ (∀ L ρ, rel L ρ v u) ∧ ∀ (t : Nat) (p q : Operand) (w : World), ((do eqGuard op t p q (.string (bt l)) (.string (bt m)); binOp op t (.string (bt l)) (.string (bt m)) : Sem Value)).run P w = .ok u w := by
  have eqs : eqL l m = ((bt l).toList == (bt m).toList) := by rw [bt_toList, bt_toList]; exact eqL_iff hl hm
  have lts : ltL l m = Op.bytesLess (bt l).toList (bt m).toList := by rw [bt_toList, bt_toList]; exact ltL_iff hl hm
  unfold strK at hh
  split at hh <;> (try simp only [boolK_eq] at hh)
  case h_1 =>
    rw [lenK_eq0, lenK_eq] at hh
    obtain ⟨hb, hh⟩ := cond_some hh
    rw [appK_eq] at hh
    refine ⟨_, .string (bt (l ++ m)), hh, fun L ρ => ?_, fun t p q w => ?_⟩
    · simp only [rel]
      refine ⟨rfl, fun b hb => ?_⟩
      rcases List.mem_append.1 hb with h | h
      · exact hl b h
      · exact hm b h
    · have hs : ¬ (((bt l).size + (bt m).size : Nat) : Int) > IntKind.i64.max := by
        rw [bt_size, bt_size]
        have := Nat.le_of_ble_eq_true hb
        have e : IntKind.i64.max = 9223372036854775807 := by decide
        rw [e]; omega
      simp only [eqGuard_at_string, binOp, Op.stringOp, Sem.run_bind, Sem.run_pure, Result.andThen_ok]
      rw [if_neg hs, bt_append]; rfl
  all_goals first
    | (cases hh; done)
    | (refine ⟨_, _, hh, fun L ρ => (by simp only [rel]; rfl), fun t p q w => ?_⟩
       simp only [eqGuard_at_string, binOp, Op.stringOp, Sem.run_bind, Sem.run_pure, Result.andThen_ok, eqs, lts])

theorem od_bs {L : Nat → Prop} {ρ : Nat → Loc} {l : List Nat} {x : Value} (h : rel L ρ (.bs l) x) : x = .string (bt l) ∧ ∀ b ∈ l, b < 256 := by simpa [rel, bytesV_bt] using h

theorem cellEq_ok {L : Nat → Prop} {ρ : Nat → Loc} {k : Kd} {u v : V} {b : Bool} (hh : cellEq k u v = some b) {x y : Value} (hx : rel L ρ u x) (hy : rel L ρ v y) {i d : Nat} {f : Field} (hf : flatF P i f k) (w : World) :
    (Op.equalIn (d + 1) f.type x y).run P w = .ok b w ∧ aggD ((P.underlying f.type).getD .bool) = false ∧ (P.underlying f.type).isSome = true := by
  obtain ⟨_, _, hf⟩ := hf
  cases k <;> simp only [cellEq] at hh <;> first | (cases hh; done) | skip
  · obtain ⟨k', hu⟩ := hf
    split at hh
    · rename_i k i k' j
      obtain ⟨hk, h5⟩ := cond_some hh
      have := kEq_eq hk; subst this
      simp only [Option.some.injEq] at h5
      simp only [rel] at hx hy
      subst hx hy h5
      exact ⟨by rw [run_equalIn_int w d f.type _ _ i j hu, iEq_iff], by rw [hu]; rfl, by rw [hu]; rfl⟩
    · cases hh
  · split at hh
    · obtain ⟨rfl, hl⟩ := od_bs hx
      obtain ⟨rfl, hm⟩ := od_bs hy
      simp only [Option.some.injEq] at hh
      subst hh
      exact ⟨by rw [run_equalIn_string w d f.type _ _ hf, bt_toList, bt_toList, eqL_iff hl hm], by rw [hf]; rfl, by rw [hf]; rfl⟩
    · cases hh
  · split at hh
    · simp only [Option.some.injEq] at hh
      simp only [rel] at hx hy
      subst hx hy hh
      exact ⟨run_equalIn_bool w d f.type _ _ hf, by rw [hf]; rfl, by rw [hf]; rfl⟩
    · cases hh
theorem aggEq_split : ∀ {ks : List Kd} {l m : List V} {κ : Bool → Option R}, aggEq ks l m κ = some r → ∃ b, aggEq ks l m some = some b ∧ κ b = some r
  | [], [], [], κ, h => ⟨true, rfl, h⟩
  | [], _ :: _, _, κ, h => by simp [aggEq] at h
  | [], [], _ :: _, κ, h => by simp [aggEq] at h
  | _ :: _, [], _, κ, h => by simp [aggEq] at h
  | _ :: _, _ :: _, [], κ, h => by simp [aggEq] at h
  | k :: ks, a :: l, b :: m, κ, h => by
    simp only [aggEq] at h ⊢
    split at h
    · rename_i hc
      obtain ⟨z, h1, h2⟩ := aggEq_split h
      exact ⟨z, by simpa [hc] using h1, h2⟩
    · rename_i hc
      exact ⟨false, by simp [hc], h⟩
    · cases h

theorem eqFields_ok {L : Nat → Prop} {ρ : Nat → Loc} {d : Nat} (w : World) : ∀ {fs : List Field} {ks : List Kd} {l m : List V} {κ : Bool → Option R} {i : Nat} {xs ys : List Value}, flatFs P i fs ks → aggEq ks l m κ = some r → rels L ρ l (xs.drop i) → rels L ρ m (ys.drop i) →
    ∃ b, κ b = some r ∧ (Op.eqFields (d + 1) xs.toArray ys.toArray fs).run P w = .ok b w
  | [], [], l, m, κ, i, xs, ys, _, hh, hx, hy => by
    cases l <;> cases m <;> simp only [aggEq] at hh <;> first | (cases hh; done) | skip
    exact ⟨true, hh, rfl⟩
  | [], _ :: _, _, _, _, _, _, _, hf, _, _, _ => by simp [flatFs] at hf
  | _ :: _, [], _, _, _, _, _, _, hf, _, _, _ => by simp [flatFs] at hf
  | f :: fs, k :: ks, [], m, κ, i, xs, ys, hf, hh, hx, hy => by simp [aggEq] at hh
  | f :: fs, k :: ks, a :: l, [], κ, i, xs, ys, hf, hh, hx, hy => by simp [aggEq] at hh
  | f :: fs, k :: ks, a :: l, b :: m, κ, i, xs, ys, hf, hh, hx, hy => by
    simp only [flatFs] at hf
    obtain ⟨hf1, hf2⟩ := hf
    simp only [aggEq] at hh
    obtain ⟨x, xr, ex, hx1, hx2⟩ := rels_cons hx
    obtain ⟨y, yr, ey, hy1, hy2⟩ := rels_cons hy
    have gx : xs[i]? = some x := by have := congrArg (·[0]?) ex; simpa using this
    have gy : ys[i]? = some y := by have := congrArg (·[0]?) ey; simpa using this
    have dx : xs.drop (i + 1) = xr := by have := congrArg (List.drop 1) ex; simpa [List.drop_drop] using this
    have dy : ys.drop (i + 1) = yr := by have := congrArg (List.drop 1) ey; simpa [List.drop_drop] using this
    have step : ∀ c, cellEq k a b = some c → (Op.eqFields (d + 1) xs.toArray ys.toArray (f :: fs)).run P w = if (!c) = true then .ok false w else (Op.eqFields (d + 1) xs.toArray ys.toArray fs).run P w := by
      intro c hc
      obtain ⟨g1, g2, g3⟩ := cellEq_ok (P := P) (d := d) hc hx1 hy1 hf1 w
      obtain ⟨de, hd⟩ := Option.isSome_iff_exists.1 g3
      rw [hd] at g2
      have px := part_one (P := P) hd (by simpa using g2) gx w
      have py := part_one (P := P) hd (by simpa using g2) gy w
      have ho : f.offset = i := hf1.2.1
      simp only [Op.eqFields, ho]
      rw [if_pos hf1.1]
      simp only [Sem.run_bind, px, py, Result.andThen_ok, g1]
      cases c <;> rfl
    split at hh
    · rename_i hc
      obtain ⟨z, h1, h2⟩ := eqFields_ok w hf2 hh (by rw [dx]; exact hx2) (by rw [dy]; exact hy2)
      exact ⟨z, h1, by rw [step _ hc]; exact h2⟩
    · rename_i hc
      exact ⟨false, hh, by rw [step _ hc]; rfl⟩
    · cases hh

theorem equal_of {t : Nat} {x y : Value} {b : Bool} {w : World} (h : ∀ n, (Op.equalIn (n + 1) t x y).run P w = .ok b w) : (Op.equal t x y).run P w = .ok b w := h 9999

theorem isNil_ok {L : Nat → Prop} {ρ : Nat → Loc} {k : Kd} {u v : V} {b : Bool} (hk : isNil k u = some b) (hv : isNilOf k v = true) {x y : Value} (hx : rel L ρ u x) (hy : rel L ρ v y) {t : Nat} {d : TypeDesc} {n : Nat} (hd : P.underlying t = some d) (hkd : KdOk k d n) (w : World) :
    (∀ (p : Operand) (c : Value) op, (eqGuard op t p (.const c) x y).run P w = .ok () w) ∧ (binOp .eql t x y).run P w = .ok (.bool b) w ∧ (binOp .neq t x y).run P w = .ok (.bool (!b)) w := by
  cases k <;> simp only [isNil] at hk <;> first | (cases hk; done) | skip
  all_goals
    simp only [isNilOf] at hv
    split at hv <;> first | (cases hv; done) | skip
    simp only [rel] at hy
    subst hy
    simp only [KdOk] at hkd
  · obtain ⟨⟨e, rfl⟩, _⟩ := hkd
    split at hk <;> first | (cases hk; done) | skip
    · simp only [Option.some.injEq] at hk; subst hk
      simp only [rel] at hx
      obtain ⟨_, rfl⟩ := hx
      exact ⟨fun p c op => by rw [eqGuard_at_pointer]; rfl, binOp_eq (by simp) (by simp) (by simp) (by simp) (equal_of fun n => by simp only [Op.equalIn]; simp [run_underlying hd])⟩
    · simp only [Option.some.injEq] at hk; subst hk
      simp only [rel] at hx
      subst hx
      exact ⟨fun p c op => by rw [eqGuard_at_pointer]; rfl, binOp_eq (by simp) (by simp) (by simp) (by simp) (equal_of fun n => by simp only [Op.equalIn]; simp [run_underlying hd])⟩
  · obtain ⟨⟨e, rfl⟩, _⟩ := hkd
    split at hk <;> first | (cases hk; done) | skip
    · simp only [Option.some.injEq] at hk; subst hk
      simp only [rel] at hx
      obtain ⟨_, rfl, _⟩ := hx
      exact ⟨fun p c op => by rw [eqGuard_at_iface]; rfl, binOp_eq (by simp) (by simp) (by simp) (by simp) (equal_of fun n => by simp only [Op.equalIn]; simp [run_underlying hd])⟩
    · simp only [Option.some.injEq] at hk; subst hk
      simp only [rel] at hx
      subst hx
      exact ⟨fun p c op => by rw [eqGuard_nil_constR]; rfl, binOp_eq (by simp) (by simp) (by simp) (by simp) (equal_of fun n => by simp only [Op.equalIn]; simp [run_underlying hd])⟩
  · obtain ⟨⟨e, rfl⟩, _⟩ := hkd
    have key : ∀ a l c, x = .slice a l c → a.isNone = b → (∀ (p : Operand) (c : Value) op, (eqGuard op t p (.const c) x (.slice none 0 0)).run P w = .ok () w) ∧ (binOp .eql t x (.slice none 0 0)).run P w = .ok (.bool b) w ∧ (binOp .neq t x (.slice none 0 0)).run P w = .ok (.bool (!b)) w := by
      intro a l c hx hb
      subst hx
      exact ⟨fun p c op => by rw [eqGuard_at_slice]; rfl, binOp_eq (by simp) (by simp) (by simp) (by simp) (by rw [run_equal_slice_nil w t e a l c hd, hb])⟩
    split at hk <;> first | (cases hk; done) | skip
    · simp only [Option.some.injEq] at hk; subst hk
      simp only [rel] at hx
      exact key _ _ _ hx rfl
    · simp only [Option.some.injEq] at hk; subst hk
      simp only [rel] at hx
      exact key _ _ _ hx.2 rfl
    · simp only [Option.some.injEq] at hk; subst hk
      obtain ⟨_, _, _, hx⟩ := rel_vec_pos hx (by omega)
      exact key _ _ _ hx rfl
  · obtain ⟨⟨e, e2, rfl⟩, _⟩ := hkd
    split at hk <;> first | (cases hk; done) | skip
    · simp only [Option.some.injEq] at hk; subst hk
      simp only [rel] at hx
      obtain ⟨_, rfl⟩ := hx
      exact ⟨fun p c op => by rw [eqGuard_at_map]; rfl, binOp_eq (by simp) (by simp) (by simp) (by simp) (by rw [run_equal_map_nil w t _ _ _ hd]; rfl)⟩
    · simp only [Option.some.injEq] at hk; subst hk
      simp only [rel] at hx
      subst hx
      exact ⟨fun p c op => by rw [eqGuard_at_map]; rfl, binOp_eq (by simp) (by simp) (by simp) (by simp) (by rw [run_equal_map_nil w t _ _ _ hd]; rfl)⟩
  · obtain ⟨⟨e, e2, e3, rfl⟩, _⟩ := hkd
    split at hk <;> first | (cases hk; done) | skip
    · simp only [Option.some.injEq] at hk; subst hk
      simp only [rel] at hx
      obtain ⟨_, _, rfl, _⟩ := hx
      exact ⟨fun p c op => by rw [eqGuard_at_func]; rfl, binOp_eq (by simp) (by simp) (by simp) (by simp) (equal_of fun n => by simp only [Op.equalIn]; simp [run_underlying hd])⟩
    · simp only [Option.some.injEq] at hk; subst hk
      simp only [rel] at hx
      subst hx
      exact ⟨fun p c op => by rw [eqGuard_at_nilFunc]; rfl, binOp_eq (by simp) (by simp) (by simp) (by simp) (equal_of fun n => by simp only [Op.equalIn]; simp [run_underlying hd])⟩

theorem qBin_ok (hT : TyOk P B) {op : BinOp} {t : Nat} {x y : Operand} {κ : V → Option R} (hh : qBin B E op t x y κ = some r) : ∃ v, κ v = some r ∧ Qs P E h [x, y] (fun ev => do eqGuard op t x y (ev x) (ev y); binOp op t (ev x) (ev y)) v := by
  obtain ⟨a, h1, h2⟩ := opv_some (show opv E x _ = some r from hh)
  obtain ⟨b, h3, h4⟩ := opv_some h2
  have nilc : (bif isConst y then (match B.knd t with
      | some k => bif isNilOf k b then (match isNil k a with
        | some r => ansK op r κ
        | none => none) else none
      | none => none) else none) = some r → ∃ v, κ v = some r ∧ Qs P E h [x, y] (fun ev => do eqGuard op t x y (ev x) (ev y); binOp op t (ev x) (ev y)) v := by
    intro h5
    obtain ⟨hc, h6⟩ := cond_some h5
    split at h6
    · rename_i k hk
      obtain ⟨hn, h7⟩ := cond_some h6
      split at h7
      · rename_i q hq
        obtain ⟨i, d, g1, g2, g3⟩ := hT.knd _ _ hk
        obtain ⟨v, u, h8, h9, h10⟩ := ans_ok (P := P) h7
        refine ⟨v, h8, fun L ρ fr ev w ho _ => ⟨u, h9 L ρ, ?_⟩⟩
        obtain ⟨e1, e2⟩ := isNil_ok (P := P) hq hn (ho x (by simp) _ h1) (ho y (by simp) _ h3) g2 g3 w
        refine h10 t x y _ _ w ?_ e2
        cases y <;> simp only [isConst, Bool.false_eq_true] at hc
        exact e1 x _ op
      · cases h7
    · cases h6
  split at h4
  · rename_i k i
    split at h4
    · rename_i k' j
      obtain ⟨hk, h5⟩ := cond_some h4
      clear h4
      have := kEq_eq hk; subst this
      obtain ⟨v, u, h6, h7, h8⟩ := intK_ok (P := P) h5
      refine ⟨v, h6, fun L ρ fr ev w ho _ => ⟨u, h7 L ρ, ?_⟩⟩
      have ex := od_int (ho x (by simp)) h1
      have ey := od_int (ho y (by simp)) h3
      show ((do eqGuard op t x y (ev x) (ev y); binOp op t (ev x) (ev y) : Sem Value)).run P w = _
      rw [ex, ey]
      exact h8 t x y w
    · cases h4
  · rename_i i0
    split at h4
    · rename_i k i k' j
      obtain ⟨hk, h5⟩ := cond_some h4
      clear h4
      have := kEq_eq hk; subst this
      obtain ⟨v, u, h6, h7, h8⟩ := rawK_ok (P := P) h5
      refine ⟨v, h6, fun L ρ fr ev w ho _ => ⟨u, h7 L ρ, ?_⟩⟩
      have ex : ev x = .int k i := by simpa only [rel] using ho x (by simp) _ h1
      have ey := od_int (ho y (by simp)) h3
      show ((do eqGuard op t x y (ev x) (ev y); binOp op t (ev x) (ev y) : Sem Value)).run P w = _
      rw [ex, ey]
      exact h8 t x y w
    · cases h4
  · rename_i l
    split at h4
    · rename_i m
      by_cases hl : (∀ b ∈ l, b < 256) ∧ ∀ b ∈ m, b < 256
      · obtain ⟨v, u, h6, h7, h8⟩ := strK_ok (P := P) hl.1 hl.2 h4
        refine ⟨v, h6, fun L ρ fr ev w ho _ => ⟨u, h7 L ρ, ?_⟩⟩
        obtain ⟨ex, _⟩ := od_bs (ho x (by simp) _ h1)
        obtain ⟨ey, _⟩ := od_bs (ho y (by simp) _ h3)
        show ((do eqGuard op t x y (ev x) (ev y); binOp op t (ev x) (ev y) : Sem Value)).run P w = _
        rw [ex, ey]
        exact h8 t x y w
      · have : ∃ v, κ v = some r := by
          unfold strK at h4
          split at h4 <;> (try simp only [boolK_eq] at h4) <;> first | exact ⟨_, h4⟩ | (cases h4; done) | skip
          rw [lenK_eq0, lenK_eq] at h4
          obtain ⟨_, h5⟩ := cond_some h4
          rw [appK_eq] at h5
          exact ⟨_, h5⟩
        obtain ⟨v, hv⟩ := this
        refine ⟨v, hv, fun L ρ fr ev w ho _ => absurd ⟨?_, ?_⟩ hl⟩
        · exact (od_bs (ho x (by simp) _ h1)).2
        · exact (od_bs (ho y (by simp) _ h3)).2
    · cases h4
  · rename_i p
    split at h4
    · rename_i q hk
      obtain ⟨i, d, g1, g2, g3⟩ := hT.knd _ _ hk
      simp only [KdOk] at g3
      obtain ⟨rfl, _⟩ := g3
      obtain ⟨v, u, h6, h7, h8⟩ := ans_ok (P := P) h4
      refine ⟨v, h6, fun L ρ fr ev w ho _ => ⟨u, h7 L ρ, ?_⟩⟩
      have ex := ho x (by simp) _ h1
      have ey := ho y (by simp) _ h3
      simp only [rel] at ex ey
      refine h8 t x y _ _ w (by rw [ex, eqGuard_at_bool]; rfl) ?_
      rw [ex, ey]
      exact binOp_eq (by simp) (by simp) (by simp) (by simp) (run_equal_bool w t p q g2)
    · cases h4
  · rename_i l
    split at h4
    · rename_i m
      split at h4
      · rename_i ks hks
        obtain ⟨fs, g1, g2, g3, g4⟩ := hT.flat _ _ hks
        have gf : P.fieldsOf t = fs := by simp [Program.fieldsOf, g1]
        obtain ⟨b, h4', h5⟩ := aggEq_split h4
        obtain ⟨v, u, h6, h7, h8⟩ := ans_ok (P := P) h5
        refine ⟨v, h6, fun L ρ fr ev w ho _ => ⟨u, h7 L ρ, ?_⟩⟩
        have ex := ho x (by simp) _ h1
        have ey := ho y (by simp) _ h3
        simp only [rel] at ex ey
        obtain ⟨xs, ex, hx⟩ := ex
        obtain ⟨ys, ey, hy⟩ := ey
        obtain ⟨b', h9, h10⟩ := eqFields_ok (P := P) (d := 9998) w (xs := xs) (ys := ys) (ks := ks) (i := 0) (by rw [← gf] at g4; exact g4) h4' (by simpa using hx) (by simpa using hy)
        cases h9
        have he : (Op.equalIn 10000 t (.agg xs.toArray) (.agg ys.toArray)).run P w = .ok b w := by
          rw [run_equalIn_struct w 9999 t _ _ (by rw [gf]; exact g1) g2]; exact h10
        refine h8 t x y _ _ w (by rw [ex, ey]; exact run_eqGuard_agg w op t x y _ _ g3) ?_
        rw [ex, ey, run_eql_struct, run_neq_struct, he]
        exact ⟨rfl, rfl⟩
      · cases h4
    · cases h4
  · rename_i p o
    split at h4
    · rename_i hk
      obtain ⟨i, d, g1, g2, g3⟩ := hT.knd _ _ hk
      simp only [KdOk] at g3
      obtain ⟨⟨e, rfl⟩, _⟩ := g3
      obtain ⟨v, u, h6, h7, h8⟩ := ans_ok (P := P) h4
      refine ⟨v, h6, fun L ρ fr ev w ho _ => ⟨u, h7 L ρ, ?_⟩⟩
      have ex := ho x (by simp) _ h1
      have ey := ho y (by simp) _ h3
      simp only [rel] at ex ey
      refine h8 t x y _ _ w (by rw [ex.2, eqGuard_at_pointer]; rfl) ?_
      rw [ex.2, ey]
      exact binOp_eq (by simp) (by simp) (by simp) (by simp) (equal_of fun n => by simp only [Op.equalIn]; simp [run_underlying g2])
    · cases h4
  · exact nilc h4
end
end Go.Kn
