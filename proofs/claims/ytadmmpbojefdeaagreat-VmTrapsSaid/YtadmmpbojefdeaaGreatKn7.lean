/-
  The engine is right: operations that leave the heap alone (2). Conditions: none.
-/
import Derived.Test.YtadmmpbojefdeaaGreatKn6
namespace Go.Kn
open Go
variable {R : Type} {r : R}

section
variable {L : Nat → Prop} {ρ : Nat → Loc}
theorem rels_splice : ∀ {us : List V} {ys : List Value} {cs : List V} {xs : List Value} (i : Nat), rels L ρ cs xs → rels L ρ us ys → rels L ρ (splice cs i us) (splice xs i ys)
  | [], ys, cs, xs, i, h, h' => by rw [rels_nil h']; exact h
  | u :: us, ys, cs, xs, i, h, h' => by
    obtain ⟨y, ys, rfl, h1, h2⟩ := rels_cons h'
    exact rels_splice (i + 1) (rels_set i h h1) h2

theorem rels_flatten {zs : List V} {xs : List Value} (h : rels L ρ zs xs) : ∀ n, rels L ρ ((List.replicate n zs).flatten) ((List.replicate n xs).flatten)
  | 0 => by simp [rels]
  | n + 1 => by simp only [List.replicate_succ, List.flatten_cons]; exact rels_append h (rels_flatten h n)
end

theorem fold_splice : ∀ (xs : List Value) (off k : Nat) (cells : Array Value), (xs.zipIdx k).foldl (fun cs (p : Value × Nat) => cs.setIfInBounds (off + p.2) p.1) cells = (splice cells.toList (off + k) xs).toArray
  | [], off, k, cells => by simp [splice]
  | x :: xs, off, k, cells => by
    simp only [List.zipIdx_cons, List.foldl_cons, splice]
    rw [fold_splice xs off (k + 1)]
    simp [Nat.add_assoc]

theorem fill_step {place : Nat → Option (Nat × Nat)} {i off n : Nat} {x : Value} {xs ys : List Value} {rest : List (Nat × Value)} (hp : place i = some (off, n)) (hx : x.cells = ys.toArray) (hn : ys.length = n) (hl : off + n ≤ xs.length) :
    Instr.fill place xs.toArray ((i, x) :: rest) = Instr.fill place (splice xs off ys).toArray rest := by
  simp only [Instr.fill, hp, hx]
  rw [if_neg (by simp [hn]; omega)]
  congr 1
  have := fold_splice ys off 0 xs.toArray
  simp only [Nat.add_zero] at this
  rw [← this]
  rw [← Array.foldl_toList]
  simp

theorem run_mapM {P : Program} {α β : Type} (f : α → Sem β) (g : α → β) (w : World) : ∀ (l : List α), (∀ x ∈ l, (f x).run P w = .ok (g x) w) → (l.mapM f).run P w = .ok (l.map g) w
  | [], _ => by simp
  | x :: l, h => by
    have ih := run_mapM f g w l (fun y hy => h y (by simp [hy]))
    simp [List.mapM_cons, h x (by simp), ih]

theorem run_mapM_array {P : Program} {α β : Type} (f : α → Sem β) (g : α → β) (w : World) (l : Array α) (h : ∀ x ∈ l, (f x).run P w = .ok (g x) w) : (l.mapM f).run P w = .ok (l.map g) w := by
  rw [Array.mapM_eq_mapM_toList]
  simp [run_mapM f g w l.toList (fun x hx => h x (by simpa using hx))]
  apply Array.ext'
  simp

section
variable {P : Program} {B : Tb} {E : En} {h : Hp}

theorem partsA_some {es : Nat} : ∀ {ps : List (Nat × Operand)} {cs : List V} {κ : List V → Option R}, partsA es E ps cs κ = some r → ∃ cs', κ cs' = some r ∧
    ∀ L ρ (ev : Operand → Value) (xs : List Value), (∀ p ∈ ps, Od L ρ E ev p.2) → rels L ρ cs xs → ∃ xs' : List Value, rels L ρ cs' xs' ∧ Instr.fill (fun i => some (i * es, es)) xs.toArray (ps.map fun (i, x) => (i, ev x)) = some xs'.toArray
  | [], cs, κ, hh => ⟨cs, hh, fun L ρ ev xs _ hr => ⟨xs, hr, rfl⟩⟩
  | (i, x) :: ps, cs, κ, hh => by
    simp only [partsA] at hh
    obtain ⟨v, h1, h2⟩ := opv_some hh
    obtain ⟨vs, h3, h4⟩ := cellsK_some h2
    rw [lenK_eq0] at h3
    obtain ⟨hb, h3⟩ := cond_some h3
    have hn := nat_beq hb
    obtain ⟨h5, h6⟩ := putsK_some h3
    obtain ⟨cs', h7, h8⟩ := partsA_some h5
    refine ⟨cs', h7, fun L ρ ev xs ho hr => ?_⟩
    obtain ⟨ys, e1, e2⟩ := h4 L ρ _ (ho (i, x) (by simp) v h1)
    obtain ⟨xs', e3, e4⟩ := h8 L ρ ev _ (fun p hp => ho p (by simp [hp])) (rels_splice _ hr e2)
    refine ⟨xs', e3, ?_⟩
    rw [← e4]
    have l1 := rels_length e2
    have l2 := rels_length hr
    simp only [List.map_cons]
    exact fill_step rfl e1 (by omega) (by have : i.mul es = i * es := rfl; omega)

theorem partsS_some (hT : TyOk P B) {t : Nat} {fs : Array Field} (hu : P.underlying t = some (.struct fs)) : ∀ {ps : List (Nat × Operand)} {cs : List V} {κ : List V → Option R}, partsS B t E ps cs κ = some r → ∃ cs', κ cs' = some r ∧
    ∀ L ρ (ev : Operand → Value) (xs : List Value), (∀ p ∈ ps, Od L ρ E ev p.2) → rels L ρ cs xs → ∃ xs' : List Value, rels L ρ cs' xs' ∧
      Instr.fill ((fs.map fun f => (f.offset, ((P.info? f.type).map (·.size)).getD 0))[·]?) xs.toArray (ps.map fun (i, x) => (i, ev x)) = some xs'.toArray
  | [], cs, κ, hh => ⟨cs, hh, fun L ρ ev xs _ hr => ⟨xs, hr, rfl⟩⟩
  | (i, x) :: ps, cs, κ, hh => by
    simp only [partsS] at hh
    split at hh
    · rename_i off n ag hf
      obtain ⟨v, h1, h2⟩ := opv_some hh
      obtain ⟨vs, h3, h4⟩ := cellsK_some h2
      rw [lenK_eq0] at h3
      obtain ⟨hb, h3⟩ := cond_some h3
      have hn := nat_beq hb
      obtain ⟨h5, h6⟩ := putsK_some h3
      obtain ⟨cs', h7, h8⟩ := partsS_some hT hu h5
      refine ⟨cs', h7, fun L ρ ev xs ho hr => ?_⟩
      obtain ⟨ys, e1, e2⟩ := h4 L ρ _ (ho (i, x) (by simp) v h1)
      obtain ⟨xs', e3, e4⟩ := h8 L ρ ev _ (fun p hp => ho p (by simp [hp])) (rels_splice _ hr e2)
      refine ⟨xs', e3, ?_⟩
      rw [← e4]
      obtain ⟨fs', fd, inf, d, g1, g2, g3, g4, g5, g6, g7, g8⟩ := hT.fld _ _ _ _ _ hf
      rw [hu] at g1; cases g1
      have l1 := rels_length e2
      have l2 := rels_length hr
      simp only [List.map_cons]
      exact fill_step (n := n) (by simp [Array.getElem?_map, g2, g3, g4, g5]) e1 (by omega) (by omega)
    · cases hh

theorem qBuild_ok (hT : TyOk P B) {t : Nat} {ps : List (Nat × Operand)} {κ : V → Option R} (hh : qBuild B E t ps κ = some r) :
    ∃ v, κ v = some r ∧ Qs P E h (ps.map (·.2)) (fun ev => Instr.build t (ps.map fun (i, x) => (i, ev x)).toArray) v := by
  unfold qBuild at hh
  split at hh
  · rename_i n es e ag ha
    obtain ⟨cs, i, z, d, xs, h1, h2, h3, h4, h5, h6, h7, h8⟩ := zerosK_some hT hh
    obtain ⟨cs', g1, g2⟩ := partsA_some h1
    obtain ⟨ie, de, a1, a2, a3, a4, a5, a6⟩ := hT.arr _ _ _ _ _ ha
    refine ⟨_, g1, fun L ρ fr ev w ho _ => ?_⟩
    obtain ⟨xs', e1, e2⟩ := g2 L ρ ev xs (fun p hp => ho p.2 (List.mem_map.2 ⟨p, hp, rfl⟩)) (h7 L ρ)
    refine ⟨.agg xs'.toArray, by simp only [rel]; exact ⟨xs', rfl, e1⟩, ?_⟩
    simp only [Instr.build, Sem.run_bind, run_zeroValue h2 h3, Result.andThen_ok, run_underlying a1, run_sizeOf a2, a3, h6, e2]
    rfl
  · split at hh
    · rename_i n hk
      obtain ⟨cs, i, z, d, xs, h1, h2, h3, h4, h5, h6, h7, h8⟩ := zerosK_some hT hh
      cases ps with
      | nil =>
        simp only [partsS] at h1
        obtain ⟨i', d', k1, k2, k3⟩ := hT.knd _ _ hk
        rw [h4] at k2; cases k2
        simp only [KdOk] at k3
        refine ⟨_, h1, fun L ρ fr ev w ho _ => ⟨.agg xs.toArray, by simp only [rel]; exact ⟨xs, rfl, h7 L ρ⟩, ?_⟩⟩
        cases d <;> simp only [aggD, Bool.false_eq_true, false_and] at k3
        rotate_left
        · rename_i fs
          have hm := run_mapM_array (P := P) (fun f : Field => do pure (f.offset, ← sizeOf f.type)) (fun f => (f.offset, ((P.info? f.type).map (·.size)).getD 0)) w fs (fun f hf => by
            obtain ⟨j, hj⟩ := Option.isSome_iff_exists.1 (h8.1 fs rfl f hf)
            simp [run_sizeOf hj, hj])
          simp only [Instr.build, Sem.run_bind, run_zeroValue h2 h3, Result.andThen_ok, run_underlying h4, hm, h6, List.map_nil, Instr.fill]
          rfl
        · rename_i m e
          obtain ⟨j, hj⟩ := Option.isSome_iff_exists.1 (h8.2 m e rfl)
          simp only [Instr.build, Sem.run_bind, run_zeroValue h2 h3, Result.andThen_ok, run_underlying h4, run_sizeOf hj, h6, List.map_nil, Instr.fill]
          rfl
      | cons p ps =>
        have hu : ∃ fs, P.underlying t = some (.struct fs) := by
          obtain ⟨j, x⟩ := p
          simp only [partsS] at h1
          split at h1
          · rename_i hf
            obtain ⟨fs, _, _, _, hu, _⟩ := hT.fld _ _ _ _ _ hf
            exact ⟨fs, hu⟩
          · cases h1
        obtain ⟨fs, hu⟩ := hu
        obtain ⟨cs', g1, g2⟩ := partsS_some hT hu h1
        rw [h4] at hu; cases hu
        refine ⟨_, g1, fun L ρ fr ev w ho _ => ?_⟩
        obtain ⟨xs', e1, e2⟩ := g2 L ρ ev xs (fun p hp => ho p.2 (List.mem_map.2 ⟨p, hp, rfl⟩)) (h7 L ρ)
        refine ⟨.agg xs'.toArray, by simp only [rel]; exact ⟨xs', rfl, e1⟩, ?_⟩
        have hm := run_mapM_array (P := P) (fun f : Field => do pure (f.offset, ← sizeOf f.type)) (fun f => (f.offset, ((P.info? f.type).map (·.size)).getD 0)) w fs (fun f hf => by
          obtain ⟨j, hj⟩ := Option.isSome_iff_exists.1 (h8.1 fs rfl f hf)
          simp [run_sizeOf hj, hj])
        simp only [Instr.build, Sem.run_bind, run_zeroValue h2 h3, Result.andThen_ok, run_underlying h4, hm, h6]
        rw [e2]
        rfl
    · cases hh

theorem qNilCheck_ok {x : Operand} {κ : V → Option R} (hh : qNilCheck E x κ = some r) : ∃ v, κ v = some r ∧ ∀ L ρ fr ev w, (∀ y ∈ [x], Od L ρ E ev y) → Sat L ρ h.get fr w.heap → ∃ y, rel L ρ v y ∧
    ∀ o : Oper, o.op = .nilCheck x → (execOp ev o).run P w = .ok (.value y) w := by
  obtain ⟨v, h1, h2⟩ := opv_some (show opv E x _ = some r from hh)
  split at h2
  · refine ⟨_, h2, fun L ρ fr ev w ho _ => ⟨_, ho x (by simp) _ h1, fun o e => ?_⟩⟩
    have hx := ho x (by simp) _ h1
    simp only [rel] at hx
    simp [execOp, e, hx.2]
  · refine ⟨_, h2, fun L ρ fr ev w ho _ => ⟨_, ho x (by simp) _ h1, fun o e => ?_⟩⟩
    have hx := ho x (by simp) _ h1
    simp only [rel] at hx
    obtain ⟨xs, ys, hx, _⟩ := hx
    simp [execOp, e, hx]
  · refine ⟨_, h2, fun L ρ fr ev w ho _ => ⟨_, ho x (by simp) _ h1, fun o e => ?_⟩⟩
    have hx := ho x (by simp) _ h1
    simp only [rel] at hx
    obtain ⟨y, hx, _⟩ := hx
    simp [execOp, e, hx]
  · cases h2

theorem qMkI_ok (hT : TyOk P B) {t : Nat} {x : Operand} {κ : V → Option R} (hh : qMkI B E t x κ = some r) : ∃ v, κ v = some r ∧ Qs P E h [x] (fun ev => Instr.makeInterface t (ev x)) v := by
  obtain ⟨v, h1, h2⟩ := opv_some (show opv E x _ = some r from hh)
  split at h2
  · cases h2
  · rename_i k hnk hk
    refine ⟨_, h2, fun L ρ fr ev w ho _ => ⟨_, (by simp only [rel]; exact ⟨_, rfl, ho x (by simp) _ h1⟩), ?_⟩⟩
    obtain ⟨i, d, hi, hd, hkk⟩ := hT.knd _ _ hk
    have hni : ∀ m, d ≠ .interface m := by
      intro m e; subst e
      cases k <;> simp [KdOk, aggD] at hkk
      exact hnk rfl
    simp only [Instr.makeInterface, Sem.run_bind, run_underlying hd, Result.andThen_ok]
    cases d <;> first | rfl | exact absurd rfl (hni _)
  · cases h2

theorem qMkF_ok {fn : Fn} {a b : List Operand} {κ : V → Option R} (hh : qMkF E fn a b κ = some r) : ∃ v, κ v = some r ∧ Qs P E h (a ++ b) (fun ev => Instr.makeFunc fn (a.map ev).toArray (b.map ev).toArray) v := by
  cases fn <;> simp only [qMkF] at hh <;> first | (cases hh; done) | skip
  obtain ⟨p, h1, h2⟩ := opvs_some hh
  obtain ⟨q, h3, h4⟩ := opvs_some h1
  refine ⟨_, h3, fun L ρ fr ev w ho _ => ⟨_, (by simp only [rel]; exact ⟨_, _, rfl, h2 L ρ ev (fun y hy => ho y (by simp [hy])), h4 L ρ ev (fun y hy => ho y (by simp [hy]))⟩), rfl⟩⟩

theorem qFieldAddr_ok (hT : TyOk P B) {s f : Nat} {x : Operand} {κ : V → Option R} (hh : qFieldAddr B E s x f κ = some r) : ∃ v, κ v = some r ∧ Qs P E h [x] (fun ev => Instr.fieldAt s (ev x) f) v := by
  obtain ⟨v, h1, h2⟩ := opv_some (show opv E x _ = some r from hh)
  obtain ⟨k, o, rfl, h3⟩ := asPtr_some h2
  split at h3
  · rename_i fo n ag hf
    rw [natK_eq] at h3
    refine ⟨_, h3, fun L ρ fr ev w ho _ => ?_⟩
    have hx := ho x (by simp) _ h1
    simp only [rel] at hx
    refine ⟨_, (by simp only [rel]; exact ⟨hx.1, rfl⟩), ?_⟩
    obtain ⟨fs, fd, i, d, g1, g2, g3, g4, g5, g6, _⟩ := hT.fld _ _ _ _ _ hf
    simp [Instr.fieldAt, run_underlying g1, g2, Instr.sureAddr, fieldPlace, run_sizeOf g4, g5, g6, add_lit, g3, Nat.add_assoc, hx.2]
  · cases h3

theorem qField_ok (hT : TyOk P B) {s f : Nat} {x : Operand} {κ : V → Option R} (hh : qField B E s x f κ = some r) : ∃ v, κ v = some r ∧ Qs P E h [x] (fun ev => Instr.field s (ev x) f) v := by
  obtain ⟨v, h1, h2⟩ := opv_some (show opv E x _ = some r from hh)
  split at h2
  · rename_i cs
    split at h2
    · rename_i off n hf
      obtain ⟨u, h3, h4⟩ := nthK_some h2
      obtain ⟨fs, fd, i, d, g1, g2, g3, g4, g5, g6, g7, g8⟩ := hT.fld _ _ _ _ _ hf
      refine ⟨u, h4, fun L ρ fr ev w ho _ => ?_⟩
      have hx := ho x (by simp) _ h1
      simp only [rel] at hx
      obtain ⟨xs, hx, hr⟩ := hx
      obtain ⟨y, hy, hr⟩ := rels_get hr h3
      exact ⟨y, hr, by simp [Instr.field, run_underlying g1, g2, hx, asAgg, part, run_isAgg g7, g8, g3, hy]⟩
    · rename_i off n hf
      obtain ⟨h3, h4⟩ := segK_some h2
      obtain ⟨fs, fd, i, d, g1, g2, g3, g4, g5, g6, g7, g8⟩ := hT.fld _ _ _ _ _ hf
      refine ⟨_, h3, fun L ρ fr ev w ho _ => ?_⟩
      have hx := ho x (by simp) _ h1
      simp only [rel] at hx
      obtain ⟨xs, hx, hr⟩ := hx
      exact ⟨.agg ((xs.drop off).take n).toArray, by simp only [rel]; exact ⟨_, rfl, rels_take n (rels_drop off hr)⟩,
        by simp [Instr.field, run_underlying g1, g2, hx, asAgg, part, run_isAgg g7, g8, g3, run_sizeOf g4, g5]⟩
    · cases h2
  · cases h2

theorem part_agg {t : Nat} {d : TypeDesc} {i : TypeInfo} (hd : P.underlying t = some d) (ha : aggD d = true) (hi : P.info? t = some i) (xs : List Value) (off : Nat) (w : World) :
    (part t xs.toArray off).run P w = .ok (.agg ((xs.drop off).take i.size).toArray) w := by
  simp [part, run_isAgg hd, ha, run_sizeOf hi]
theorem part_one {t : Nat} {d : TypeDesc} (hd : P.underlying t = some d) (ha : aggD d = false) {xs : List Value} {off : Nat} {y : Value} (hy : xs[off]? = some y) (w : World) :
    (part t xs.toArray off).run P w = .ok y w := by
  simp [part, run_isAgg hd, ha, hy]

theorem qIndex_ok (hT : TyOk P B) {t : Nat} {x i : Operand} {κ : V → Option R} (hh : qIndex B E t x i κ = some r) : ∃ v, κ v = some r ∧ Qs P E h [x, i] (fun ev => Instr.index t (ev x) (ev i)) v := by
  obtain ⟨v, h1, h2⟩ := opv_some (show opv E x _ = some r from hh)
  obtain ⟨n, ik, h3, h4⟩ := ix_some h2
  split at h3
  · rename_i l
    split at h3
    · rename_i hk
      obtain ⟨i', d, g1, g2, g3⟩ := hT.knd _ _ hk
      simp only [KdOk] at g3
      obtain ⟨rfl, _⟩ := g3
      obtain ⟨b, h5, h6⟩ := nthN_some h3
      refine ⟨_, h6, fun L ρ fr ev w ho _ => ⟨_, (by simp only [rel]; rfl), ?_⟩⟩
      have hx := ho x (by simp) _ h1
      simp only [rel] at hx
      have hi := od_int (ho i (by simp)) h4
      obtain ⟨e1, e2⟩ := bt_get h5 (hx.2 b (List.mem_of_getElem? h5))
      have hx' : ev x = .string (bt l) := hx.1
      simp only [Instr.index, hi, asIntOf, Sem.run_bind, Sem.run_pure, Result.andThen_ok, run_underlying g2, hx', Int.natCast_nonneg, if_true, Int.toNat_natCast, e1]
      rw [e2]; rfl
    · cases h3
  · rename_i cs
    split at h3
    · rename_i len es et ag ha
      obtain ⟨hb, h3⟩ := cond_some h3
      have hlt : n < len := by simpa [Nat.blt_eq] using hb
      obtain ⟨ie, de, a1, a2, a3, a4, a5, a6⟩ := hT.arr _ _ _ _ _ ha
      have hcond : (0 : Int) ≤ (n : Int) ∧ (n : Int) < (len : Int) := ⟨by omega, by omega⟩
      split at h3
      · obtain ⟨h5, h6⟩ := segK_some h3
        refine ⟨_, h5, fun L ρ fr ev w ho _ => ?_⟩
        have hx := ho x (by simp) _ h1
        simp only [rel] at hx
        obtain ⟨xs, hx, hr⟩ := hx
        have hi := od_int (ho i (by simp)) h4
        refine ⟨.agg ((xs.drop (n * es)).take es).toArray, by simp only [rel]; exact ⟨_, rfl, rels_take es (rels_drop _ hr)⟩, ?_⟩
        have hp := part_agg (P := P) a5 a6 a2 xs (n * es) w
        rw [a3] at hp
        simp only [Instr.index, hi, asIntOf, Sem.run_bind, Sem.run_pure, Result.andThen_ok, run_underlying a1, hx, hcond, and_self, if_true, run_sizeOf a2, a3, Int.toNat_natCast, hp]
      · obtain ⟨u, h5, h6⟩ := nthK_some h3
        refine ⟨u, h6, fun L ρ fr ev w ho _ => ?_⟩
        have hx := ho x (by simp) _ h1
        simp only [rel] at hx
        obtain ⟨xs, hx, hr⟩ := hx
        have hi := od_int (ho i (by simp)) h4
        obtain ⟨y, hy, hr⟩ := rels_get hr h5
        refine ⟨y, hr, ?_⟩
        have hp := part_one (P := P) a5 a6 (show xs[n * es]? = some y from hy) w
        simp only [Instr.index, hi, asIntOf, Sem.run_bind, Sem.run_pure, Result.andThen_ok, run_underlying a1, hx, hcond, and_self, if_true, run_sizeOf a2, a3, Int.toNat_natCast, hp]
    · cases h3
  · cases h3

theorem rel_vec_pos {L : Nat → Prop} {ρ : Nat → Loc} {k len : Nat} {x : Value} (hx : rel L ρ (.vec k len) x) (hl : 0 < len) : L k ∧ (ρ k).nil = false ∧ len ≤ (ρ k).cap ∧ x = .slice (some ⟨(ρ k).b, (ρ k).base, none⟩) len (ρ k).cap := by
  simp only [rel] at hx
  obtain ⟨h1, ⟨_, h2, _⟩ | h2⟩ := hx
  · omega
  · exact ⟨h1, h2⟩

theorem indexAt_slice {t n : Nat} {e es : Nat} {ie : TypeInfo} (hu : P.underlying t = some (.slice e)) (hi : P.info? e = some ie) (hs : ie.size = es) {b o len cap : Nat} (hlt : n < len) (ik : IntKind) (w : World) :
    (Instr.indexAt t (.slice (some ⟨b, o, none⟩) len cap) (.int ik n)).run P w = .ok (.pointer (some ⟨b, o + n * es, none⟩)) w := by
  have hc : (0 : Int) ≤ (n : Int) ∧ (n : Int) < (len : Int) := ⟨by omega, by omega⟩
  simp only [Instr.indexAt, asIntOf, Sem.run_bind, Sem.run_pure, Result.andThen_ok, run_underlying hu, hc, and_self, if_true, run_sizeOf hi, hs, Int.toNat_natCast, add_lit]

theorem qIndexAddr_ok (hT : TyOk P B) {t : Nat} {x i : Operand} {κ : V → Option R} (hh : qIndexAddr B E t x i κ = some r) : ∃ v, κ v = some r ∧ Qs P E h [x, i] (fun ev => Instr.indexAt t (ev x) (ev i)) v := by
  obtain ⟨v, h1, h2⟩ := opv_some (show opv E x _ = some r from hh)
  obtain ⟨n, ik, h3, h4⟩ := ix_some h2
  split at h3
  · rename_i k off len cap
    split at h3
    · rename_i es e by_ hsl
      obtain ⟨hb, h3⟩ := cond_some h3
      rw [natK_eq] at h3
      have hlt : n < len := by simpa [Nat.blt_eq] using hb
      obtain ⟨ie, z, a1, a2, a3, _⟩ := hT.sl _ _ _ _ hsl
      refine ⟨_, h3, fun L ρ fr ev w ho _ => ?_⟩
      have hx := ho x (by simp) _ h1
      simp only [rel] at hx
      have hi := od_int (ho i (by simp)) h4
      refine ⟨_, (by simp only [rel]; exact ⟨hx.1, rfl⟩), ?_⟩
      show (Instr.indexAt t (ev x) (ev i)).run P w = Result.ok (Value.pointer (some ⟨(ρ k).b, (ρ k).base + (off + n * es), none⟩)) w
      rw [hx.2, hi, indexAt_slice a1 a2 a3 hlt ik w, Nat.add_assoc]
    · cases h3
  · rename_i k off len
    split at h3
    · rename_i es e by_ hsl
      obtain ⟨hb, h3⟩ := cond_some h3
      rw [natK_eq] at h3
      have hlt : n < len := by simpa [Nat.blt_eq] using hb
      obtain ⟨ie, z, a1, a2, a3, _⟩ := hT.sl _ _ _ _ hsl
      refine ⟨_, h3, fun L ρ fr ev w ho _ => ?_⟩
      have hx := ho x (by simp) _ h1
      simp only [rel] at hx
      obtain ⟨hl, a, cap, hx, _, ha⟩ := hx
      have hi := od_int (ho i (by simp)) h4
      refine ⟨_, (by simp only [rel]; exact ⟨hl, rfl⟩), ?_⟩
      show (Instr.indexAt t (ev x) (ev i)).run P w = Result.ok (Value.pointer (some ⟨(ρ k).b, (ρ k).base + (off + n * es), none⟩)) w
      rw [hx, hi, ha (by omega), indexAt_slice a1 a2 a3 hlt ik w, Nat.add_assoc]
    · cases h3
  · rename_i k len
    split at h3
    · rename_i es e by_ hsl
      obtain ⟨hb, h3⟩ := cond_some h3
      rw [natK_eq] at h3
      have hlt : n < len := by simpa [Nat.blt_eq] using hb
      obtain ⟨ie, z, a1, a2, a3, _⟩ := hT.sl _ _ _ _ hsl
      refine ⟨_, h3, fun L ρ fr ev w ho _ => ?_⟩
      obtain ⟨hl, _, _, hx⟩ := rel_vec_pos (ho x (by simp) _ h1) (by omega)
      have hi := od_int (ho i (by simp)) h4
      refine ⟨_, (by simp only [rel]; exact ⟨hl, rfl⟩), ?_⟩
      show (Instr.indexAt t (ev x) (ev i)).run P w = _
      rw [hx, hi, indexAt_slice a1 a2 a3 hlt ik w]
      rfl
    · cases h3
  · rename_i k off
    split at h3
    · rename_i len es e ag ha
      obtain ⟨hb, h3⟩ := cond_some h3
      rw [natK_eq] at h3
      have hlt : n < len := by simpa [Nat.blt_eq] using hb
      obtain ⟨ie, de, a1, a2, a3, _⟩ := hT.arr _ _ _ _ _ ha
      refine ⟨_, h3, fun L ρ fr ev w ho _ => ?_⟩
      have hx := ho x (by simp) _ h1
      simp only [rel] at hx
      have hi := od_int (ho i (by simp)) h4
      refine ⟨_, (by simp only [rel]; exact ⟨hx.1, rfl⟩), ?_⟩
      have hc : (0 : Int) ≤ (n : Int) ∧ (n : Int) < (len : Int) := ⟨by omega, by omega⟩
      simp only [Instr.indexAt, hi, hx.2, asIntOf, Sem.run_bind, Sem.run_pure, Result.andThen_ok, run_underlying a1, Instr.sureAddr, hc, and_self, if_true, run_sizeOf a2, a3, Int.toNat_natCast, add_lit, Nat.add_assoc]
      rfl
    · cases h3
  · cases h3

theorem qTA_ok (hT : TyOk P B) {xt t : Nat} {ok : Bool} {x : Operand} {κ : V → Option R} (hh : qTA B E x t ok κ = some r) : ∃ v, κ v = some r ∧ Qs P E h [x] (fun ev => Instr.typeAssert (ev x) xt t ok) v := by
  obtain ⟨v, h1, h2⟩ := opv_some (show opv E x _ = some r from hh)
  split at h2
  · cases h2
  · cases h2
  · rename_i k hnk hk
    obtain ⟨i, d, g1, g2, g3⟩ := hT.knd _ _ hk
    have hni : ∀ m, d ≠ .interface m := by
      intro m e; subst e
      cases k <;> simp [KdOk, aggD] at g3
      exact hnk rfl
    have yes : ∀ (y : Value) (w : World), (Instr.typeAssert (.iface t y) xt t ok).run P w = .ok (if ok then .tuple #[y, .bool true] else y) w := by
      intro y w
      simp only [Instr.typeAssert, Sem.run_bind, run_underlying g2, Result.andThen_ok]
      cases d <;> first | exact absurd rfl (hni _) | (simp; done)
    have no : ∀ (t' : Nat) (y : Value) (w : World) (z : Value), t' ≠ t → (zeroValue t).run P w = .ok z w → (Instr.typeAssert (.iface t' y) xt t true).run P w = .ok (.tuple #[z, .bool false]) w := by
      intro t' y w z hne hz
      simp only [Instr.typeAssert, Sem.run_bind, run_underlying g2, Result.andThen_ok]
      cases d <;> first | exact absurd rfl (hni _) | (simp [hne, hz]; done)
    have nil : ∀ (w : World) (z : Value), (zeroValue t).run P w = .ok z w → (Instr.typeAssert .nilIface xt t true).run P w = .ok (.tuple #[z, .bool false]) w := by
      intro w z hz
      simp only [Instr.typeAssert, Sem.run_bind, run_underlying g2, Result.andThen_ok]
      cases d <;> first | exact absurd rfl (hni _) | (simp [hz]; done)
    split at h2
    · rename_i t' u
      cases hb : Nat.beq t' t with
      | true =>
        rw [hb] at h2
        have := nat_beq hb; subst this
        cases ok with
        | true =>
          refine ⟨_, h2, fun L ρ fr ev w ho _ => ?_⟩
          have hx := ho x (by simp) _ h1
          simp only [rel] at hx
          obtain ⟨y, hx, hy⟩ := hx
          refine ⟨.tuple #[y, .bool true], by simp only [rel]; exact ⟨[y, .bool true], rfl, rels_mk hy (rels_mk (by simp [rel]) rels_mk0)⟩, ?_⟩
          show (Instr.typeAssert (ev x) xt t' _).run P w = _
          rw [hx, yes]; rfl
        | false =>
          refine ⟨_, h2, fun L ρ fr ev w ho _ => ?_⟩
          have hx := ho x (by simp) _ h1
          simp only [rel] at hx
          obtain ⟨y, hx, hy⟩ := hx
          refine ⟨y, hy, ?_⟩
          show (Instr.typeAssert (ev x) xt t' _).run P w = _
          rw [hx, yes]; rfl
      | false =>
        rw [hb] at h2
        cases ok with
        | false => cases h2
        | true =>
          obtain ⟨z, zv, h3, h4, h5⟩ := zeroK_some hT (show zeroK B t (fun z => κ (.tup [z, .bool false])) = some r from h2)
          refine ⟨_, h3, fun L ρ fr ev w ho _ => ?_⟩
          have hx := ho x (by simp) _ h1
          simp only [rel] at hx
          obtain ⟨y, hx, hy⟩ := hx
          refine ⟨.tuple #[zv, .bool false], by simp only [rel]; exact ⟨[zv, .bool false], rfl, rels_mk (h4 L ρ) (rels_mk (by simp [rel]) rels_mk0)⟩, ?_⟩
          show (Instr.typeAssert (ev x) xt t true).run P w = _
          rw [hx, no t' y w zv (nat_beq_ne hb) (h5 w)]
    · cases ok with
      | false => cases h2
      | true =>
        obtain ⟨z, zv, h3, h4, h5⟩ := zeroK_some hT (show zeroK B t (fun z => κ (.tup [z, .bool false])) = some r from h2)
        refine ⟨_, h3, fun L ρ fr ev w ho _ => ?_⟩
        have hx := ho x (by simp) _ h1
        simp only [rel] at hx
        refine ⟨.tuple #[zv, .bool false], by simp only [rel]; exact ⟨[zv, .bool false], rfl, rels_mk (h4 L ρ) (rels_mk (by simp [rel]) rels_mk0)⟩, ?_⟩
        show (Instr.typeAssert (ev x) xt t true).run P w = _
        rw [hx, nil w zv (h5 w)]
    · cases h2
end
end Go.Kn
