/-
  The engine is right: operations that leave the heap alone (4). Conditions: none.
-/
import Derived.Test.YtadmmpbojefdeaaGreatKn8
namespace Go.Kn
open Go
variable {R : Type} {r : R}

section
variable {P : Program} {B : Tb} {E : En} {h : Hp}

theorem qUn_ok {op : UnOp} {x : Operand} {κ : V → Option R} (hh : qUn E op x κ = some r) : ∃ v, κ v = some r ∧ Qs P E h [x] (fun ev => Op.unary op (ev x)) v := by
  cases op <;> simp only [qUn] at hh <;> first | (cases hh; done) | skip
  all_goals
    obtain ⟨v, h1, h2⟩ := opv_some hh
    split at h2 <;> (try simp only [intFK_eq, boolK_eq] at h2) <;> first | (cases h2; done) | skip
  all_goals
    refine ⟨_, h2, fun L ρ fr ev w ho _ => ⟨_, (by simp only [rel]; rfl), ?_⟩⟩
    have hx := ho x (by simp) _ h1
    simp only [rel] at hx
    simp [hx, Op.unary, Op.intArith, intBits_xor]

theorem toB_some : ∀ {cs : List V} {κ : List Nat → Option R}, toB cs κ = some r → ∃ l, κ l = some r ∧ cs = l.map (fun n : Nat => V.int .u8 n) ∧ ∀ b ∈ l, b < 256
  | [], κ, h => ⟨[], h, rfl, by simp⟩
  | v :: cs, κ, h => by
    unfold toB at h
    split at h
    · rename_i e; cases e
    · rename_i n l e
      cases e
      obtain ⟨hb, h⟩ := cond_some h
      obtain ⟨l', h1, h2, h3⟩ := toB_some h
      refine ⟨n :: l', h1, by rw [h2]; rfl, fun b hb' => ?_⟩
      simp only [List.mem_cons] at hb'
      rcases hb' with rfl | hb'
      · simpa [Nat.blt_eq] using hb
      · exact h3 b hb'
    · cases h

theorem bsK_some : ∀ {l : List Nat} {n : Nat} {κ : List V → Option R}, bsK l n κ = some r → κ ((l.take n).map (fun b : Nat => V.int .u8 b)) = some r ∧ n ≤ l.length
  | [], n, κ, h => by
    simp only [bsK] at h
    obtain ⟨hb, h⟩ := cond_some h
    have := nat_beq hb; subst this
    exact ⟨by simpa using h, Nat.le_refl _⟩
  | v :: vs, n, κ, h => by
    simp only [bsK] at h
    cases hb : Nat.beq n 0 with
    | true => rw [hb] at h; have := nat_beq hb; subst this; exact ⟨by simpa using h, by simp⟩
    | false =>
      rw [hb] at h
      have hn := nat_beq_ne hb
      obtain ⟨m, rfl⟩ : ∃ m, n = m + 1 := ⟨n - 1, by omega⟩
      obtain ⟨h1, h2⟩ := bsK_some (show bsK vs (m + 1 - 1) (fun r => κ (.int .u8 (.ofNat v) :: r)) = some r from h)
      exact ⟨by simpa using h1, by simp at h2 ⊢; omega⟩

theorem vlen_some {v : V} {κ : Nat → Option R} (hh : vlen v κ = some r) : ∃ n, κ n = some r ∧ ((isSlV v = true ∧ ∀ L ρ x, rel L ρ v x → ∃ a cap, x = .slice a n cap) ∨ ∃ l, v = .bs l ∧ n = l.length) := by
  cases v <;> simp only [vlen] at hh <;> first | (cases hh; done) | skip
  · rw [lenK_eq0] at hh; exact ⟨_, hh, .inr ⟨_, rfl, rfl⟩⟩
  · exact ⟨_, hh, .inl ⟨rfl, fun L ρ x hx => by simp only [rel] at hx; exact ⟨_, _, hx.2⟩⟩⟩
  · exact ⟨_, hh, .inl ⟨rfl, fun L ρ x hx => by simp only [rel] at hx; obtain ⟨_, a, c, hx, _⟩ := hx; exact ⟨_, _, hx⟩⟩⟩
  · refine ⟨_, hh, .inl ⟨rfl, fun L ρ x hx => ?_⟩⟩
    simp only [rel] at hx
    obtain ⟨_, ⟨_, hl, hx⟩ | ⟨_, _, hx⟩⟩ := hx
    · exact ⟨_, _, by rw [hl]; exact hx⟩
    · exact ⟨_, _, hx⟩
  · exact ⟨_, hh, .inl ⟨rfl, fun L ρ x hx => by simp only [rel] at hx; exact ⟨_, _, hx⟩⟩⟩

/-- The cells of a slice's elements. -/
theorem cellsAt_some {m : Nat} {v : V} {κ : List V → Option R} (hh : cellsAt h m v κ = some r) : ∃ cs, κ cs = some r ∧ cs.length = m ∧
    (isSlV v = true → ∀ (L : Nat → Prop) (ρ : Nat → Loc) (fr : Nat → Option Obj) (w : World) (x : Value), Sat L ρ h.get fr w.heap → rel L ρ v x → ∃ xs : List Value, rels L ρ cs xs ∧ xs.length = m ∧ ∀ size n, n * size = m → (Builtin.firstCells size n x).run P w = .ok xs.toArray w) ∧
    (∀ l, v = .bs l → cs = (l.take m).map (fun b : Nat => V.int .u8 b) ∧ m ≤ l.length) := by
  unfold cellsAt at hh
  cases hb : Nat.beq m 0 with
  | true =>
    rw [hb] at hh
    have := nat_beq hb; subst this
    refine ⟨[], hh, rfl, fun hsl L ρ fr w x hs hx => ⟨[], by simp [rels], rfl, fun size n hn => ?_⟩, fun l hl => ⟨by simp, by simp⟩⟩
    have fc : ∀ a len cap, (Builtin.firstCells size n (.slice a len cap)).run P w = .ok #[] w := by
      intro a len cap
      cases a with
      | none => simp [Builtin.firstCells]
      | some a => simp only [Builtin.firstCells, hn]; rfl
    have : ∃ a len cap, x = .slice a len cap := by
      cases v <;> simp only [isSlV, Bool.false_eq_true] at hsl <;> simp only [rel] at hx
      · exact ⟨_, _, _, hx.2⟩
      · obtain ⟨_, a, c, hx, _⟩ := hx; exact ⟨_, _, _, hx⟩
      · obtain ⟨_, ⟨_, _, hx⟩ | ⟨_, _, hx⟩⟩ := hx <;> exact ⟨_, _, _, hx⟩
      · exact ⟨_, _, _, hx⟩
    obtain ⟨a, len, cap, rfl⟩ := this
    exact fc a len cap
  | false =>
    rw [hb] at hh
    have hm := nat_beq_ne hb
    have key : ∀ {k off : Nat} {a : Option Nat} {cs : List V} {T : Nat}, h.get k = some (.o a cs T) → segK cs off m κ = some r → (∀ (L : Nat → Prop) (ρ : Nat → Loc) (fr : Nat → Option Obj) (w : World) (x : Value), Sat L ρ h.get fr w.heap → rel L ρ v x → ∃ len cap, x = .slice (some ⟨(ρ k).b, (ρ k).base + off, none⟩) len cap) →
        (∀ l, v ≠ .bs l) → ∃ cs, κ cs = some r ∧ cs.length = m ∧
        (isSlV v = true → ∀ (L : Nat → Prop) (ρ : Nat → Loc) (fr : Nat → Option Obj) (w : World) (x : Value), Sat L ρ h.get fr w.heap → rel L ρ v x → ∃ xs : List Value, rels L ρ cs xs ∧ xs.length = m ∧ ∀ size n, n * size = m → (Builtin.firstCells size n x).run P w = .ok xs.toArray w) ∧
        (∀ l, v = .bs l → cs = (l.take m).map (fun b : Nat => V.int .u8 b) ∧ m ≤ l.length) := by
      intro k off a cs T ho hs hx hnb
      obtain ⟨h1, h2⟩ := segK_some hs
      refine ⟨_, h1, by simp; omega, fun _ L ρ fr w x hsat hr => ?_, fun l e => absurd e (hnb l)⟩
      obtain ⟨xs, g1, g2, g3⟩ := hsat.loads (P := P) ho (n := m) (off := off) (by simpa [BO.cs] using h2)
      obtain ⟨len, cap, rfl⟩ := hx L ρ fr w x hsat hr
      refine ⟨xs, g1, g2, fun size n hn => ?_⟩
      simp only [Builtin.firstCells, hn]
      exact g3
    cases v <;> simp only [cond_false] at hh <;> first | (cases hh; done) | skip
    · obtain ⟨h1, h2⟩ := bsK_some hh
      refine ⟨_, h1, by simp; omega, fun e => by simp [isSlV] at e, fun l e => ?_⟩
      cases e
      exact ⟨rfl, h2⟩
    · obtain ⟨a, cs, T, h1, h2⟩ := asObj_some hh
      exact key h1 h2 (fun L ρ fr w x _ hx => by simp only [rel] at hx; exact ⟨_, _, hx.2⟩) (by simp)
    · rename_i k off len
      cases hl : Nat.beq len 0 with
      | true => rw [hl] at hh; cases hh
      | false =>
        rw [hl] at hh
        have hl := nat_beq_ne hl
        obtain ⟨a, cs, T, h1, h2⟩ := asObj_some (show asObj h k _ = some r from hh)
        exact key h1 h2 (fun L ρ fr w x _ hx => by simp only [rel] at hx; obtain ⟨_, a, c, hx, _, ha⟩ := hx; exact ⟨_, _, by rw [hx, ha (by omega)]⟩) (by simp)
    · rename_i k len
      obtain ⟨a, cs, T, h1, h2⟩ := asObj_some hh
      split at h2
      · refine key h1 h2 (fun L ρ fr w x hs hx => ?_) (by simp)
        obtain ⟨g1, g2⟩ := segK_some h2
        simp only [rel] at hx
        obtain ⟨_, ⟨hn, _, hx⟩ | ⟨_, _, hx⟩⟩ := hx
        · have := hs.obj k _ h1
          rcases this with ⟨_, hc⟩ | ⟨hn', _⟩
          · subst hc; simp at g2; omega
          · rw [hn] at hn'; cases hn'
        · exact ⟨_, _, by simpa using hx⟩
      · cases h2

theorem foldl_push : ∀ (l : List Nat) (s : ByteArray), (∀ b ∈ l, b < 256) → (l.map (Int.ofNat)).foldl (fun r (n : Int) => r.push (UInt8.ofNat n.toNat)) s = s ++ bt l
  | [], s, _ => by
    apply bytes_ext
    simp [bt, ByteArray.data_append]
  | b :: l, s, h => by
    simp only [List.map_cons, List.foldl_cons]
    rw [foldl_push l _ (fun x hx => h x (by simp [hx]))]
    apply bytes_ext
    simp [bt, ByteArray.data_append]

theorem rels_ints {L : Nat → Prop} {ρ : Nat → Loc} : ∀ {l : List Nat} {xs : List Value}, rels L ρ (l.map (fun n : Nat => V.int .u8 n)) xs → xs = (l.map Int.ofNat).map (Value.int .u8)
  | [], xs, h => rels_nil h
  | b :: l, xs, h => by
    obtain ⟨x, q, rfl, h1, h2⟩ := rels_cons h
    simp only [rel] at h1
    rw [h1, rels_ints h2]; rfl

theorem qConvert_ok (hT : TyOk P B) {s d : Nat} {x : Operand} {κ : V → Option R} (hh : qConvert B E h s d x κ = some r) : ∃ v, κ v = some r ∧ Qs P E h [x] (fun ev => convert s d (ev x)) v := by
  obtain ⟨v, h1, h2⟩ := opv_some (show opv E x _ = some r from hh)
  split at h2
  · rename_i ks hks
    split at h2
    · rename_i k hkd
      split at h2
      · rename_i k0 n
        rw [intFK_eq] at h2
        obtain ⟨_, _, _, hd1, ⟨rfl, _⟩⟩ := hT.knd _ _ hks
        obtain ⟨_, _, _, hd2, ⟨rfl, _⟩⟩ := hT.knd _ _ hkd
        refine ⟨_, h2, fun L ρ fr ev w ho _ => ⟨_, (by simp only [rel]; rfl), ?_⟩⟩
        have hx := ho x (by simp) _ h1
        simp only [rel] at hx
        simp [hx, convert, run_underlying hd1, run_underlying hd2, Conv.intToInt]
      · cases h2
    · cases h2
  · rename_i hks
    split at h2
    · rename_i hkd
      split at h2
      · obtain ⟨_, _, _, hd1, ⟨rfl, _⟩⟩ := hT.knd _ _ hks
        obtain ⟨_, _, _, hd2, ⟨rfl, _⟩⟩ := hT.knd _ _ hkd
        refine ⟨_, h2, fun L ρ fr ev w ho _ => ⟨_, ho x (by simp) _ h1, ?_⟩⟩
        obtain ⟨hx, _⟩ := od_bs (ho x (by simp) _ h1)
        simp [hx, convert, run_underlying hd1, run_underlying hd2]
      · cases h2
    · cases h2
  · rename_i hks
    split at h2
    · rename_i es et by_ hkd hsl
      split at h2
      · rename_i hke
        obtain ⟨_, _, _, hd2, ⟨rfl, _⟩⟩ := hT.knd _ _ hkd
        obtain ⟨_, _, _, he, ⟨rfl, _⟩⟩ := hT.knd _ _ hke
        obtain ⟨ie, z, a1, _⟩ := hT.sl _ _ _ _ hsl
        obtain ⟨hsl', h2'⟩ := cond_some h2
        obtain ⟨n, h3, hn⟩ := vlen_some h2'
        obtain ⟨cs, h4, h5, h6, _⟩ := cellsAt_some (P := P) h3
        obtain ⟨l, h7, h8, h9⟩ := toB_some h4
        refine ⟨_, h7, fun L ρ fr ev w ho hs => ⟨.string (bt l), by simp only [rel]; exact ⟨rfl, h9⟩, ?_⟩⟩
        have hx := ho x (by simp) _ h1
        rcases hn with ⟨_, hsh⟩ | ⟨l', rfl, _⟩
        · obtain ⟨a, c, e⟩ := hsh L ρ _ hx
          obtain ⟨xs, g1, g2, g3⟩ := h6 hsl' L ρ fr w _ hs hx
          have g4 := g3 1 n (by omega)
          rw [h8] at g1
          have g5 := rels_ints g1
          show (convert s d (ev x)).run P w = _
          rw [e] at g4 ⊢
          rw [run_convert_bytes_string w s d et a n c a1 he hd2]
          cases a with
          | none =>
            simp only [Builtin.firstCells] at g4
            have : xs = [] := by
              have := Result.ok.inj g4
              simpa using this.1.symm
            subst this
            have : l = [] := by
              have := congrArg List.length g5
              exact List.eq_nil_of_length_eq_zero (by simpa using this.symm)
            subst this
            rfl
          | some a =>
            have g6 : (loadCells a n).run P w = .ok ((l.map Int.ofNat).map (Value.int .u8)).toArray w := by
              rw [← g5]; simpa [Builtin.firstCells] using g4
            rw [run_bytesToString w a n c _ g6, foldl_push l _ h9]
            congr 2
        · cases hsl'
      · cases h2
    · cases h2
  · cases h2

theorem bounds_ok {L : Nat → Prop} {ρ : Nat → Loc} {ev : Operand → Value} {lo hi mx : Option Operand} {isS : Bool} {a b c len cap : Nat}
    (ho : ∀ y ∈ lo.toList ++ hi.toList ++ mx.toList, Od L ρ E ev y)
    (ha : lo = none ∧ a = 0 ∨ ∃ y k, lo = some y ∧ opdV E y = some (.int k a)) (hb : hi = none ∧ b = len ∨ ∃ y k, hi = some y ∧ opdV E y = some (.int k b)) (hc : mx = none ∧ c = cap ∨ ∃ y k, mx = some y ∧ opdV E y = some (.int k c))
    (h1 : hi = none → mx = none) (hab : a ≤ b) (hbc : b ≤ c) (hcc : c ≤ cap) (w : World) : (Instr.sliceBounds isS len cap (lo.map ev) (hi.map ev) (mx.map ev)).run P w = .ok (a, b, c) w := by
  have sb : ∀ (k : IntKind) (n m : Nat) (code : BoundsCode), n ≤ m → (Instr.sliceBound (.int k n) m code).run P w = .ok n w := by
    intro k n m code hnm
    have : (0 : Int) ≤ (n : Int) ∧ (n : Int) ≤ (m : Int) := ⟨by omega, by omega⟩
    simp [Instr.sliceBound, asIntOf, this]
  rcases hc with ⟨rfl, rfl⟩ | ⟨x, k1, rfl, hx⟩
  · rcases hb with ⟨rfl, rfl⟩ | ⟨y, k2, rfl, hy⟩
    · rcases ha with ⟨rfl, rfl⟩ | ⟨z, k3, rfl, hz⟩
      · simp [Instr.sliceBounds]
      · have ez := od_int (ho z (by simp)) hz
        simp [Instr.sliceBounds, ez, sb k3 a b _ hab]
    · have ey := od_int (ho y (by simp)) hy
      rcases ha with ⟨rfl, rfl⟩ | ⟨z, k3, rfl, hz⟩
      · simp [Instr.sliceBounds, ey, sb k2 b c _ hbc]
      · have ez := od_int (ho z (by simp)) hz
        simp [Instr.sliceBounds, ey, ez, sb k2 b c _ hbc, sb k3 a b _ hab]
  · have ex := od_int (ho x (by simp)) hx
    rcases hb with ⟨rfl, rfl⟩ | ⟨y, k2, rfl, hy⟩
    · exact absurd (h1 rfl) (by simp)
    · have ey := od_int (ho y (by simp)) hy
      rcases ha with ⟨rfl, rfl⟩ | ⟨z, k3, rfl, hz⟩
      · simp [Instr.sliceBounds, ex, ey, sb k1 c cap _ hcc, sb k2 b c _ hbc]
      · have ez := od_int (ho z (by simp)) hz
        simp [Instr.sliceBounds, ex, ey, ez, sb k1 c cap _ hcc, sb k2 b c _ hbc, sb k3 a b _ hab]

theorem sliceAt_slice {t e es : Nat} {ie : TypeInfo} (hu : P.underlying t = some (.slice e)) (hi : P.info? e = some ie) (hs : ie.size = es) {a : Option Addr} {len cap l hgh m : Nat} {lo hi' mx : Option Value} {w : World} (hb : (Instr.sliceBounds true len cap lo hi' mx).run P w = .ok (l, hgh, m) w) :
    (Instr.sliceAt t (.slice a len cap) lo hi' mx).run P w = .ok (.slice (if m = l then a else a.map (·.add (l * es))) (hgh - l) (m - l)) w := by
  simp only [Instr.sliceAt, Instr.slice, Sem.run_bind, run_underlying hu, Result.andThen_ok, hb, run_sizeOf hi, hs]
  rfl

theorem partK_eq (off a es b c : Nat) (κ : Nat → Nat → Nat → Option R) : partK off a es b c κ = κ (if c - a = 0 then off else off + a * es) (b - a) (c - a) := by
  simp only [partK, natK_eq]
  have e : Nat.sub c a = c - a := rfl
  have e2 : Nat.sub b a = b - a := rfl
  rw [e, e2]
  cases h : Nat.beq (c - a) 0 with
  | true => rw [if_pos (nat_beq h)]; rfl
  | false => rw [if_neg (nat_beq_ne h)]; rfl

theorem and_split {x y : Bool} (h : (x && y) = true) : x = true ∧ y = true := by simpa using h

theorem qSlice_ok (hT : TyOk P B) {t : Nat} {x : Operand} {lo hi mx : Option Operand} {κ : V → Option R} (hh : qSlice B E t x lo hi mx κ = some r) :
    ∃ v, κ v = some r ∧ Qs P E h (x :: (lo.toList ++ hi.toList ++ mx.toList)) (fun ev => Instr.sliceAt t (ev x) (lo.map ev) (hi.map ev) (mx.map ev)) v := by
  obtain ⟨v, h1, h2⟩ := opv_some (show opv E x _ = some r from hh)
  split at h2
  · rename_i l
    split at h2
    · rename_i hk
      obtain ⟨i', d, g1, g2, g3⟩ := hT.knd _ _ hk
      simp only [KdOk] at g3
      obtain ⟨rfl, _⟩ := g3
      rw [lenK_eq0] at h2
      obtain ⟨a, h3, ha⟩ := oix_some h2
      obtain ⟨b, h4, hb⟩ := oix_some h3
      obtain ⟨hab, h5⟩ := cond_some h4
      obtain ⟨h6, h7⟩ := segN_some h5
      have hab := Nat.le_of_ble_eq_true hab
      have e2 : Nat.sub b a = b - a := rfl
      rw [e2] at h6 h7
      refine ⟨_, h6, fun L ρ fr ev w ho _ => ?_⟩
      obtain ⟨hx, hl⟩ := od_bs (ho x (by simp) _ h1)
      refine ⟨.string (bt ((l.drop a).take (b - a))), by simp only [rel]; exact ⟨rfl, fun c hc => hl c (List.mem_of_mem_drop (List.mem_of_mem_take hc))⟩, ?_⟩
      have bd := bounds_ok (P := P) (isS := false) (mx := none) (cap := l.length) (c := l.length) (lo := lo) (hi := hi) (fun y hy => ho y (List.mem_cons_of_mem _ hy)) ha hb (.inl ⟨rfl, rfl⟩) (fun _ => rfl) hab (by omega) (Nat.le_refl _) w
      simp only [Option.map_none] at bd
      simp only [Instr.sliceAt, Instr.slice, Sem.run_bind, run_underlying g2, Result.andThen_ok, hx, Option.map_none, Option.isSome_none, Bool.false_eq_true, if_false, bt_size, bd]
      have := bt_extract l a (b - a)
      rw [show a + (b - a) = b by omega] at this
      rw [this]; rfl
    · cases h2
  · rename_i k off len cap
    split at h2
    · rename_i es e by_ hsl
      obtain ⟨ie, z, a1, a2, a3, _⟩ := hT.sl _ _ _ _ hsl
      obtain ⟨a, h3, ha⟩ := oix_some h2
      obtain ⟨c, h4, hc⟩ := oix_some h3
      split at h4
      · cases h4
      · rename_i hnn
        obtain ⟨b, h5, hb⟩ := oix_some h4
        obtain ⟨hcond, h6⟩ := cond_some h5
        obtain ⟨hcond, hcc⟩ := and_split hcond
        obtain ⟨hab, hbc⟩ := and_split hcond
        have hab := Nat.le_of_ble_eq_true hab
        have hbc := Nat.le_of_ble_eq_true hbc
        have hcc := Nat.le_of_ble_eq_true hcc
        rw [partK_eq] at h6
        refine ⟨_, h6, fun L ρ fr ev w ho _ => ?_⟩
        have hx := ho x (by simp) _ h1
        simp only [rel] at hx
        have bd := bounds_ok (P := P) (isS := true) (lo := lo) (hi := hi) (fun y hy => ho y (List.mem_cons_of_mem _ hy)) ha hb hc (fun e => by cases mx with
          | none => rfl
          | some y => exact (hnn y rfl e).elim) hab hbc hcc w
        refine ⟨_, ?_, by show (Instr.sliceAt t (ev x) (lo.map ev) (hi.map ev) (mx.map ev)).run P w = _; rw [hx.2]; exact sliceAt_slice a1 a2 a3 bd⟩
        simp only [rel]
        refine ⟨hx.1, ?_⟩
        by_cases hca : c = a
        · rw [if_pos hca, if_pos (by omega)]
        · rw [if_neg hca, if_neg (by omega)]
          simp [add_lit, Nat.add_assoc]
    · cases h2
  · rename_i k len
    split at h2
    · rename_i es e by_ hsl
      obtain ⟨ie, z, a1, a2, a3, _⟩ := hT.sl _ _ _ _ hsl
      split at h2
      · obtain ⟨a, h3, ha⟩ := oix_some h2
        obtain ⟨b, h5, hb⟩ := oix_some h3
        obtain ⟨hcond, h6⟩ := cond_some h5
        obtain ⟨hab, hbl⟩ := and_split hcond
        have hab := Nat.le_of_ble_eq_true hab
        have hbl := Nat.le_of_ble_eq_true hbl
        have bd : ∀ {L ρ ev} (cap : Nat) (w : World), (∀ x_1 ∈ x :: (lo.toList ++ hi.toList ++ (none : Option Operand).toList), Od L ρ E ev x_1) → len ≤ cap → (Instr.sliceBounds true len cap (lo.map ev) (hi.map ev) none).run P w = .ok (a, b, cap) w := by
          intro L ρ ev cap w ho hle
          have := bounds_ok (P := P) (isS := true) (mx := none) (cap := cap) (c := cap) (lo := lo) (hi := hi) (fun y hy => ho y (List.mem_cons_of_mem _ hy)) ha hb (.inl ⟨rfl, rfl⟩) (fun _ => rfl) hab (by omega) (Nat.le_refl _) w
          simpa using this
        cases hz : Nat.beq a 0 with
        | true =>
          rw [hz] at h6
          have := nat_beq hz; subst this
          refine ⟨_, h6, fun L ρ fr ev w ho _ => ?_⟩
          have hx := ho x (by simp) _ h1
          simp only [rel] at hx
          obtain ⟨hL, ⟨hn, hl, hx⟩ | ⟨hn, hl, hx⟩⟩ := hx
          · refine ⟨_, ?_, by show (Instr.sliceAt t (ev x) (lo.map ev) (hi.map ev) none).run P w = _; rw [hx]; exact sliceAt_slice a1 a2 a3 (by have := bd 0 w ho (by omega); rw [hl] at this; exact this)⟩
            have : b = 0 := by omega
            subst this
            simp only [rel]
            exact ⟨hL, .inl ⟨hn, by simp, by simp⟩⟩
          · refine ⟨_, ?_, by show (Instr.sliceAt t (ev x) (lo.map ev) (hi.map ev) none).run P w = _; rw [hx]; exact sliceAt_slice a1 a2 a3 (bd _ w ho hl)⟩
            simp only [rel]
            refine ⟨hL, .inr ⟨hn, by omega, ?_⟩⟩
            by_cases hc0 : (ρ k).cap = 0
            · rw [if_pos hc0]; simp
            · rw [if_neg hc0]; simp [add_lit]
        | false =>
          rw [hz] at h6
          have haz := nat_beq_ne hz
          simp only [cond_false, natK_eq] at h6
          refine ⟨_, h6, fun L ρ fr ev w ho _ => ?_⟩
          obtain ⟨hL, hn, hl, hx⟩ := rel_vec_pos (ho x (by simp) _ h1) (by omega)
          refine ⟨_, ?_, by show (Instr.sliceAt t (ev x) (lo.map ev) (hi.map ev) none).run P w = _; rw [hx]; exact sliceAt_slice a1 a2 a3 (bd _ w ho hl)⟩
          simp only [rel]
          refine ⟨hL, _, _, rfl, by have : Nat.sub b a = b - a := rfl; omega, fun hpos => ?_⟩
          have : Nat.sub b a = b - a := rfl
          rw [if_neg (by omega)]
          simp [add_lit]
      · rename_i y
        split at h2
        · cases h2
        · rename_i y2
          obtain ⟨a, h3, ha⟩ := oix_some h2
          obtain ⟨b, h4, hb⟩ := oix_some h3
          obtain ⟨c, h5, hc⟩ := oix_some h4
          obtain ⟨hcond, h6⟩ := cond_some h5
          obtain ⟨hcond, hpos⟩ := and_split hcond
          obtain ⟨hcond, hcc⟩ := and_split hcond
          obtain ⟨hab, hbc⟩ := and_split hcond
          have hab := Nat.le_of_ble_eq_true hab
          have hbc := Nat.le_of_ble_eq_true hbc
          have hcc := Nat.le_of_ble_eq_true hcc
          have hpos : 0 < len := by simpa [Nat.blt_eq] using hpos
          rw [partK_eq] at h6
          refine ⟨_, h6, fun L ρ fr ev w ho _ => ?_⟩
          obtain ⟨hL, hn, hl, hx⟩ := rel_vec_pos (ho x (by simp) _ h1) (by omega)
          have hc' : (some y = none ∧ c = (ρ k).cap ∨ ∃ z k, some y = some z ∧ opdV E z = some (.int k c)) := by
            rcases hc with ⟨e, _⟩ | hc
            · cases e
            · exact .inr hc
          have bd := bounds_ok (P := P) (isS := true) (cap := (ρ k).cap) (lo := lo) (hi := some y2) (mx := some y) (fun y hy => ho y (List.mem_cons_of_mem _ hy)) ha hb hc' (fun e => by cases e) hab hbc (by omega) w
          refine ⟨_, ?_, by show (Instr.sliceAt t (ev x) (lo.map ev) _ _).run P w = _; rw [hx]; exact sliceAt_slice a1 a2 a3 bd⟩
          simp only [rel]
          refine ⟨hL, ?_⟩
          by_cases hca : c = a
          · rw [if_pos hca, if_pos (by omega)]; rfl
          · rw [if_neg hca, if_neg (by omega)]
            simp [add_lit]
    · cases h2
  · rename_i k off len
    split at h2
    · rename_i es e by_ hsl
      obtain ⟨ie, z, a1, a2, a3, _⟩ := hT.sl _ _ _ _ hsl
      obtain ⟨a, h3, ha⟩ := oix_some h2
      obtain ⟨b, h5, hb⟩ := oix_some h3
      obtain ⟨hcond, h6⟩ := cond_some h5
      obtain ⟨hab, hbl⟩ := and_split hcond
      have hab := Nat.le_of_ble_eq_true hab
      have hbl := Nat.le_of_ble_eq_true hbl
      simp only [natK_eq] at h6
      refine ⟨_, h6, fun L ρ fr ev w ho _ => ?_⟩
      have hx := ho x (by simp) _ h1
      simp only [rel] at hx
      obtain ⟨hL, a0, cap, hx, hlc, haddr⟩ := hx
      have bd := bounds_ok (P := P) (isS := true) (mx := none) (cap := cap) (c := cap) (lo := lo) (hi := hi) (fun y hy => ho y (List.mem_cons_of_mem _ hy)) ha hb (.inl ⟨rfl, rfl⟩) (fun _ => rfl) hab (by omega) (Nat.le_refl _) w
      refine ⟨_, ?_, by show (Instr.sliceAt t (ev x) (lo.map ev) (hi.map ev) none).run P w = _; rw [hx]; exact sliceAt_slice a1 a2 a3 bd⟩
      have e2 : Nat.sub b a = b - a := rfl
      have e3 : off.add (a.mul es) = off + a * es := rfl
      simp only [rel, e2, e3]
      refine ⟨hL, _, _, rfl, by omega, fun hpos => ?_⟩
      rw [if_neg (by omega), haddr (by omega)]
      simp [add_lit, Nat.add_assoc]
    · cases h2
  · split at h2
    · rename_i es hsl
      obtain ⟨es, e, by_⟩ := es
      obtain ⟨ie, z, a1, a2, a3, _⟩ := hT.sl _ _ _ _ hsl
      obtain ⟨a, h3, ha⟩ := oix_some h2
      obtain ⟨b, h4, hb⟩ := oix_some h3
      obtain ⟨c, h5, hc⟩ := oix_some h4
      split at h5
      · cases h5
      · rename_i hnn
        obtain ⟨hcond, h6⟩ := cond_some h5
        obtain ⟨hcond, hcc⟩ := and_split hcond
        obtain ⟨hab, hbc⟩ := and_split hcond
        have e1 := nat_beq hab
        have e2 := nat_beq hbc
        have e3 := nat_beq hcc
        subst e1 e2 e3
        refine ⟨_, h6, fun L ρ fr ev w ho _ => ?_⟩
        have hx := ho x (by simp) _ h1
        simp only [rel] at hx
        have bd := bounds_ok (P := P) (isS := true) (lo := lo) (hi := hi) (mx := mx) (fun y hy => ho y (List.mem_cons_of_mem _ hy)) ha hb hc (fun e => by cases mx with
          | none => rfl
          | some y => exact (hnn y rfl e).elim) (Nat.le_refl _) (Nat.le_refl _) (Nat.le_refl _) w
        refine ⟨_, ?_, by show (Instr.sliceAt t (ev x) (lo.map ev) (hi.map ev) (mx.map ev)).run P w = _; rw [hx]; exact sliceAt_slice a1 a2 a3 bd⟩
        simp [rel]
    · cases h2
  · rename_i k off
    split at h2
    · rename_i cap es e ag ha'
      obtain ⟨ie, de, a1, a2, a3, _⟩ := hT.arr _ _ _ _ _ ha'
      obtain ⟨a, h3, ha⟩ := oix_some h2
      obtain ⟨c, h4, hc⟩ := oix_some h3
      split at h4
      · cases h4
      · rename_i hnn
        obtain ⟨b, h5, hb⟩ := oix_some h4
        obtain ⟨hcond, h6⟩ := cond_some h5
        obtain ⟨hcond, hcc⟩ := and_split hcond
        obtain ⟨hab, hbc⟩ := and_split hcond
        have hab := Nat.le_of_ble_eq_true hab
        have hbc := Nat.le_of_ble_eq_true hbc
        have hcc := Nat.le_of_ble_eq_true hcc
        rw [partK_eq] at h6
        refine ⟨_, h6, fun L ρ fr ev w ho _ => ?_⟩
        have hx := ho x (by simp) _ h1
        simp only [rel] at hx
        have bd := bounds_ok (P := P) (isS := false) (lo := lo) (hi := hi) (mx := mx) (fun y hy => ho y (List.mem_cons_of_mem _ hy)) ha hb hc (fun e => by cases mx with
          | none => rfl
          | some y => exact (hnn y rfl e).elim) hab hbc hcc w
        refine ⟨_, ?_, by
          show (Instr.sliceAt t (ev x) (lo.map ev) (hi.map ev) (mx.map ev)).run P w = _
          rw [hx.2]
          simp only [Instr.sliceAt, Sem.run_bind, run_underlying a1, Result.andThen_ok, Instr.sureAddr, Sem.run_pure, bd, run_sizeOf a2, a3]
          rfl⟩
        simp only [rel]
        refine ⟨hx.1, ?_⟩
        by_cases hca : c = a
        · rw [if_pos hca, if_pos (by omega)]
        · rw [if_neg hca, if_neg (by omega)]
          simp [add_lit, Nat.add_assoc]
    · cases h2
  · cases h2
end
end Go.Kn
