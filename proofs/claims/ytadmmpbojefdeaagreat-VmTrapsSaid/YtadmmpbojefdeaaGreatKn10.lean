/-
  The engine is right: operations that leave the heap alone (5). Conditions: none.
-/
import Derived.Test.YtadmmpbojefdeaaGreatKn9
namespace Go.Kn
open Go
variable {R : Type} {r : R}

section
variable {P : Program} {B : Tb} {E : En} {h : Hp}

theorem qMin_ok {ats : Array TypeId} {ty : TypeId} {x y : Operand} {κ : V → Option R} (hh : qMin E x y κ = some r) : ∃ v, κ v = some r ∧ Qs P E h [x, y] (fun ev => Builtin.min_ ats ty #[ev x, ev y]) v := by
  obtain ⟨a, h1, h2⟩ := opv_some (show opv E x _ = some r from hh)
  obtain ⟨b, h3, h4⟩ := opv_some h2
  split at h4
  · rename_i k i k' j
    rw [iLt_iff] at h4
    have key : ∀ (ev : Operand → Value) (w : World), ev x = .int k i → ev y = .int k' j → (Builtin.min_ ats ty #[ev x, ev y]).run P w = .ok (.int k (if j < i then j else i)) w := by
      intro ev w ex ey
      simp [Builtin.min_, ex, ey, Builtin.min2]
    by_cases hc : j < i
    · simp only [hc, decide_true, cond_true] at h4
      refine ⟨_, h4, fun L ρ fr ev w ho _ => ⟨_, (by simp only [rel]; rfl), ?_⟩⟩
      have := key ev w (od_int (ho x (by simp)) h1) (od_int (ho y (by simp)) h3)
      rwa [if_pos hc] at this
    · simp only [hc, decide_false, cond_false] at h4
      refine ⟨_, h4, fun L ρ fr ev w ho _ => ⟨_, (by simp only [rel]; rfl), ?_⟩⟩
      have := key ev w (od_int (ho x (by simp)) h1) (od_int (ho y (by simp)) h3)
      rwa [if_neg hc] at this
  · cases h4

theorem qMax_ok {ats : Array TypeId} {ty : TypeId} {x y : Operand} {κ : V → Option R} (hh : qMax E x y κ = some r) : ∃ v, κ v = some r ∧ Qs P E h [x, y] (fun ev => Builtin.max_ ats ty #[ev x, ev y]) v := by
  obtain ⟨a, h1, h2⟩ := opv_some (show opv E x _ = some r from hh)
  obtain ⟨b, h3, h4⟩ := opv_some h2
  split at h4
  · rename_i k i k' j
    rw [iLt_iff] at h4
    have key : ∀ (ev : Operand → Value) (w : World), ev x = .int k i → ev y = .int k' j → (Builtin.max_ ats ty #[ev x, ev y]).run P w = .ok (.int k (if i < j then j else i)) w := by
      intro ev w ex ey
      simp [Builtin.max_, ex, ey, Builtin.max2]
    by_cases hc : i < j
    · simp only [hc, decide_true, cond_true] at h4
      refine ⟨_, h4, fun L ρ fr ev w ho _ => ⟨_, (by simp only [rel]; rfl), ?_⟩⟩
      have := key ev w (od_int (ho x (by simp)) h1) (od_int (ho y (by simp)) h3)
      rwa [if_pos hc] at this
    · simp only [hc, decide_false, cond_false] at h4
      refine ⟨_, h4, fun L ρ fr ev w ho _ => ⟨_, (by simp only [rel]; rfl), ?_⟩⟩
      have := key ev w (od_int (ho x (by simp)) h1) (od_int (ho y (by simp)) h3)
      rwa [if_neg hc] at this
  · cases h4

theorem asMap_some {m : V} {κ : Nat → List (V × V × Nat) → Nat → Option R} (hh : asMap h m κ = some r) : ∃ q es c, m = .map q ∧ h.get q = some (.mp es c) ∧ κ q es c = some r := by
  unfold asMap at hh
  split at hh
  · split at hh
    · exact ⟨_, _, _, rfl, by assumption, hh⟩
    · cases hh
  · cases hh

theorem ents_length {L : Nat → Prop} {ρ : Nat → Loc} : ∀ {es : List (V × V × Nat)} {ms : List MapEntry}, ents L ρ es ms → es.length = ms.length
  | [], ms, h => by simp only [ents] at h; simp [h]
  | (k, v, b) :: es, ms, h => by
    simp only [ents] at h
    obtain ⟨m, q, rfl, _, _, _, h4⟩ := h
    simp [ents_length h4]

theorem getObj_map {w : World} {b : Nat} {ms : Array MapEntry} {c : Nat} (hb : w.heap[b]? = some (.map ms c)) : (getObj b).run P w = .ok (.map ms c) w := MapKept.run_getObj_map hb

theorem qCap_ok (hT : TyOk P B) {ats : List TypeId} {ty : TypeId} {t : Nat} {x : Operand} {κ : V → Option R} (hh : qCap B E x t κ = some r) : ∃ v, κ v = some r ∧ Qs P E h [x] (fun ev => Builtin.cap_ (t :: ats).toArray ty #[ev x]) v := by
  obtain ⟨v, h1, h2⟩ := opv_some (show opv E x _ = some r from hh)
  split at h2
  · rename_i hk
    obtain ⟨_, _, _, hd, ⟨⟨e, rfl⟩, _⟩⟩ := hT.knd _ _ hk
    split at h2
    · refine ⟨_, h2, fun L ρ fr ev w ho _ => ⟨_, (by simp only [rel]; rfl), ?_⟩⟩
      have hx := ho x (by simp) _ h1
      simp only [rel] at hx
      simp [Builtin.cap_, hx.2, run_underlying hd, goInt]
    · refine ⟨_, h2, fun L ρ fr ev w ho _ => ⟨_, (by simp only [rel]; rfl), ?_⟩⟩
      have hx := ho x (by simp) _ h1
      simp only [rel] at hx
      simp [Builtin.cap_, hx, run_underlying hd, goInt]
    · cases h2
  · cases h2

theorem qLen_ok (hT : TyOk P B) {ats : List TypeId} {ty : TypeId} {t : Nat} {x : Operand} {κ : V → Option R} (hh : qLen B E h x t κ = some r) : ∃ v, κ v = some r ∧ Qs P E h [x] (fun ev => Builtin.len_ (t :: ats).toArray ty #[ev x]) v := by
  obtain ⟨v, h1, h2⟩ := opv_some (show opv E x _ = some r from hh)
  split at h2
  · rename_i hk
    obtain ⟨_, _, _, hd, ⟨⟨k, e, rfl⟩, _⟩⟩ := hT.knd _ _ hk
    split at h2
    · refine ⟨_, h2, fun L ρ fr ev w ho _ => ⟨_, (by simp only [rel]; rfl), ?_⟩⟩
      have hx := ho x (by simp) _ h1
      simp only [rel] at hx
      simp [Builtin.len_, hx, run_underlying hd, goInt]
    · obtain ⟨q, es, c, rfl, h3, h4⟩ := asMap_some h2
      rw [lenK_eq0] at h4
      refine ⟨_, h4, fun L ρ fr ev w ho hs => ⟨_, (by simp only [rel]; rfl), ?_⟩⟩
      have hx := ho x (by simp) _ h1
      simp only [rel] at hx
      obtain ⟨ms, hb, he⟩ := hs.obj q _ h3
      simp [Builtin.len_, hx.2, run_underlying hd, goInt, getObj_map hb, ents_length he]
  · rename_i hk
    obtain ⟨_, _, _, hd, ⟨rfl, _⟩⟩ := hT.knd _ _ hk
    split at h2
    · rw [lenK_eq0] at h2
      refine ⟨_, h2, fun L ρ fr ev w ho _ => ⟨_, (by simp only [rel]; rfl), ?_⟩⟩
      obtain ⟨hx, _⟩ := od_bs (ho x (by simp) _ h1)
      simp [Builtin.len_, hx, run_underlying hd, goInt, bt_size]
    · cases h2
  · rename_i hk
    obtain ⟨_, _, _, hd, ⟨⟨e, rfl⟩, _⟩⟩ := hT.knd _ _ hk
    split at h2
    · cases h2
    · rename_i hnb
      obtain ⟨n, h3, ⟨_, h4⟩ | ⟨l, e, _⟩⟩ := vlen_some h2
      · refine ⟨_, h3, fun L ρ fr ev w ho _ => ⟨_, (by simp only [rel]; rfl), ?_⟩⟩
        obtain ⟨a, c, hx⟩ := h4 L ρ _ (ho x (by simp) _ h1)
        simp [Builtin.len_, hx, run_underlying hd, goInt]
      · exact absurd e (hnb l)
  · cases h2

/-! Maps. -/
theorem findM_split {k : V} : ∀ {es : List (V × V × Nat)} {κ : Option (V × Nat) → Option R}, findM k es κ = some r → ∃ o, findM k es some = some o ∧ κ o = some r
  | [], κ, h => ⟨none, rfl, h⟩
  | (a, v, b) :: es, κ, h => by
    simp only [findM] at h ⊢
    split at h
    · rename_i hc; exact ⟨_, by simp [hc], h⟩
    · rename_i hc
      obtain ⟨o, h1, h2⟩ := findM_split h
      exact ⟨o, by simpa [hc] using h1, h2⟩
    · cases h

/-- What a key's type is, and that a key is of it. -/
theorem keyOk_isKey (hT : TyOk P B) {kt : Nat} {k : V} (hk : keyOk B kt k = true) : ∃ d, P.underlying kt = some d ∧ (∀ L ρ x, rel L ρ k x → MapKept.IsKey d x) ∧
    ∀ {L ρ a c x y}, keyEq k a = some c → rel L ρ k x → rel L ρ a y → Instr.sameNow d x y = some c := by
  unfold keyOk at hk
  split at hk
  · rename_i ik hkd
    obtain ⟨_, d, _, hd, ⟨rfl, _⟩⟩ := hT.knd _ _ hkd
    split at hk
    · rename_i ik' n
      have := kEq_eq hk; subst this
      refine ⟨_, hd, fun L ρ x hx => by simp only [rel] at hx; subst hx; rfl, fun {L ρ a c x y} he hx hy => ?_⟩
      unfold keyEq at he
      split at he
      · rename_i k1 i k2 j e1
        cases e1
        cases hq : kEq ik' k2 with
        | false => rw [hq] at he; cases he
        | true =>
          rw [hq] at he
          have := kEq_eq hq; subst this
          simp only [cond_true, Option.some.injEq] at he
          simp only [rel] at hx hy
          subst hx hy he
          simp [Instr.sameNow, iEq_iff]
      · rename_i e1; cases e1
      · cases he
    · cases hk
  · rename_i hkd
    obtain ⟨_, d, _, hd, ⟨rfl, _⟩⟩ := hT.knd _ _ hkd
    split at hk
    · rename_i l
      refine ⟨_, hd, fun L ρ x hx => by obtain ⟨rfl, _⟩ := od_bs hx; trivial, fun {L ρ a c x y} he hx hy => ?_⟩
      unfold keyEq at he
      split at he
      · rename_i e1; cases e1
      · rename_i l1 m e1
        cases e1
        obtain ⟨rfl, hl⟩ := od_bs hx
        obtain ⟨rfl, hm⟩ := od_bs hy
        simp only [Option.some.injEq] at he
        subst he
        simp only [Instr.sameNow, beq_toListBytes, bt_toList, eqL_iff hl hm]
      · cases he
    · cases hk
  · cases hk

theorem findM_ok {k : V} {d : TypeDesc} (hkey : ∀ {L ρ a c x y}, keyEq k a = some c → rel L ρ k x → rel L ρ a y → Instr.sameNow d x y = some c) {L : Nat → Prop} {ρ : Nat → Loc} {x : Value} (hx : rel L ρ k x) :
    ∀ {es : List (V × V × Nat)} {ms : List MapEntry} {o : Option (V × Nat)} (i : Nat), findM k es some = some o → ents L ρ es ms → 
    match o with
    | none => Instr.findNow d x ms i = some none
    | some (v, b) => ∃ j m, Instr.findNow d x ms i = some (some (i + j, m.val)) ∧ ms[j]? = some m ∧ rel L ρ v m.val ∧ m.born = b ∧ ∃ a, es[j]? = some (a, v, b) ∧ keyEq k a = some true ∧ rel L ρ a m.key
  | [], ms, o, i, h, he => by
    simp only [ents] at he
    subst he
    simp only [findM, Option.some.injEq] at h
    subst h
    rfl
  | (a, v, b) :: es, ms, o, i, h, he => by
    simp only [ents] at he
    obtain ⟨m, q, rfl, g1, g2, g3, g4⟩ := he
    simp only [findM] at h
    split at h
    · rename_i hc
      simp only [Option.some.injEq] at h
      subst h
      have := hkey hc hx g1
      exact ⟨0, m, by simp [Instr.findNow, this], rfl, g2, g3, a, rfl, hc, g1⟩
    · rename_i hc
      have := hkey hc hx g1
      have ih := findM_ok hkey hx (i + 1) h g4
      cases o with
      | none => simp only [Instr.findNow, this]; exact ih
      | some vb =>
        obtain ⟨v', b'⟩ := vb
        obtain ⟨j, m', e1, e2, e3, e4, a', e5, e6⟩ := ih
        exact ⟨j + 1, m', by simp only [Instr.findNow, this]; rw [e1]; congr 3; omega, by simpa using e2, e3, e4, a', by simpa using e5, e6⟩
    · cases h

theorem qLookup_ok (hT : TyOk P B) {t : Nat} {x i : Operand} {ok : Bool} {κ : V → Option R} (hh : qLookup B E h t x i ok κ = some r) : ∃ v, κ v = some r ∧ Qs P E h [x, i] (fun ev => Instr.lookup t (ev x) (ev i) ok) v := by
  obtain ⟨m, h1, h2⟩ := opv_some (show opv E x _ = some r from hh)
  obtain ⟨k, h3, h4⟩ := opv_some h2
  split at h4
  · rename_i kt et hmp
    have hu := hT.mp _ _ _ hmp
    obtain ⟨hk, h5⟩ := cond_some h4
    obtain ⟨d, hd, hik, hkey⟩ := keyOk_isKey hT hk
    obtain ⟨q, es, c, rfl, h6, h7⟩ := asMap_some h5
    obtain ⟨o, h8, h9⟩ := findM_split h7
    have pre : ∀ {L ρ fr} {ev : Operand → Value} {w : World}, (∀ y ∈ [x, i], Od L ρ E ev y) → Sat L ρ h.get fr w.heap → ∃ ms : List MapEntry, rel L ρ k (ev i) ∧ ents L ρ es ms ∧
        ∀ a, Instr.findNow d (ev i) ms 0 = some a → ∀ (z : Value), (a = none → (zeroValue et).run P w = .ok z w) → (Instr.lookup t (ev x) (ev i) ok).run P w =
          .ok (match a with | some (_, v) => if ok then .tuple #[v, .bool true] else v | none => if ok then .tuple #[z, .bool false] else z) w := by
      intro L ρ fr ev w ho hs
      have hx := ho x (by simp) _ h1
      have hi := ho i (by simp) _ h3
      simp only [rel] at hx
      obtain ⟨ms, hb, he⟩ := hs.obj q _ h6
      refine ⟨ms, hi, he, fun a ha z hz => ?_⟩
      have ck := MapKept.run_checkKey (P := P) (w := w) hd (hik L ρ _ hi) ms.toArray.isEmpty 9999
      have fk := MapKept.run_findKey (P := P) (w := w) (kt := kt) hd ha
      simp only [Instr.lookup, Sem.run_bind, run_underlying hu, Result.andThen_ok, hx.2, getObj_map hb, Sem.run_pure, ck, fk]
      cases a with
      | none => simp only [Sem.run_bind, hz rfl, Result.andThen_ok, Sem.run_pure]
      | some p => obtain ⟨_, v⟩ := p; simp only [Sem.run_pure, Result.andThen_ok]; rfl
    split at h9
    · rename_i v b
      have fin : ∀ {u : V}, (∀ L ρ (y : Value), rel L ρ v y → rel L ρ u (if ok then .tuple #[y, .bool true] else y)) → Qs P E h [x, i] (fun ev => Instr.lookup t (ev x) (ev i) ok) u := by
        intro u hu' L ρ fr ev w ho hs
        obtain ⟨ms, g1, g2, g3⟩ := pre ho hs
        obtain ⟨j, m, e1, e2, e3, e4, _⟩ := findM_ok hkey g1 0 h8 g2
        exact ⟨_, hu' L ρ _ e3, g3 _ e1 undef (fun e => by cases e)⟩
      cases ok with
      | true => exact ⟨_, h9, fin fun L ρ y hy => by simp only [rel]; exact ⟨[y, .bool true], rfl, rels_mk hy (rels_mk (by simp [rel]) rels_mk0)⟩⟩
      | false => exact ⟨_, h9, fin fun L ρ y hy => hy⟩
    · obtain ⟨z, zv, e1, e2, e3⟩ := zeroK_some hT h9
      have fin : ∀ {u : V}, (∀ L ρ, rel L ρ u (if ok then .tuple #[zv, .bool false] else zv)) → Qs P E h [x, i] (fun ev => Instr.lookup t (ev x) (ev i) ok) u := by
        intro u hu' L ρ fr ev w ho hs
        obtain ⟨ms, g1, g2, g3⟩ := pre ho hs
        have e4 := findM_ok hkey g1 0 h8 g2
        exact ⟨_, hu' L ρ, g3 _ e4 zv (fun _ => e3 w)⟩
      cases ok with
      | true => exact ⟨_, e1, fin fun L ρ => by simp only [rel]; exact ⟨[zv, .bool false], rfl, rels_mk (e2 L ρ) (rels_mk (by simp [rel]) rels_mk0)⟩⟩
      | false => exact ⟨_, e1, fin fun L ρ => e2 L ρ⟩
  · cases h4

theorem getObj_iter {w : World} {b : Nat} {q : Option Nat} {s : Nat} {se : Array Nat} {st : Nat} (hb : w.heap[b]? = some (.mapIter q s se st)) : (getObj b).run P w = .ok (.mapIter q s se st) w := by
  simp [getObj, Sem.run, hb]

theorem qEntry_ok {x : Operand} {κ : V → Option R} (hh : qEntry E h x κ = some r) : ∃ v, κ v = some r ∧ Qs P E h [x] (fun ev => Instr.entry (ev x)) v := by
  obtain ⟨v, h1, h2⟩ := opv_some (show opv E x _ = some r from hh)
  obtain ⟨k, o, rfl, h3⟩ := asPtr_some h2
  obtain ⟨ho, h4⟩ := cond_some h3
  have := nat_beq ho; subst this
  split at h4
  · rename_i q since s stepped hk
    split at h4
    · rename_i a b n c hq
      obtain ⟨hc, h5⟩ := cond_some h4
      obtain ⟨hn, hc'⟩ := and_split hc
      have e1 := nat_beq hn
      have e2 := nat_beq hc'
      subst e1 e2
      refine ⟨_, h5, fun L ρ fr ev w ho hs => ?_⟩
      have hx := ho x (by simp) _ h1
      simp only [rel] at hx
      obtain ⟨_, hbase, hi⟩ := hs.obj k _ hk
      obtain ⟨ms, hb, he⟩ := hs.obj q _ hq
      simp only [ents] at he
      obtain ⟨m, q', rfl, g1, g2, g3, g4⟩ := he
      subst g4
      refine ⟨.tuple #[m.key, m.val], by simp only [rel]; exact ⟨[m.key, m.val], rfl, rels_mk g1 (rels_mk g2 rels_mk0)⟩, ?_⟩
      simp [Instr.entry, hx.2, hbase, getObj_iter hi, getObj_map hb, g3]
    · cases h4
  · cases h4

/-- An operation that leaves the world alone yields v. -/
def QOk (P : Program) (E : En) (h : Hp) (op : Op) (v : V) : Prop := ∀ L ρ fr ev w, (∀ x ∈ op.operands.toList, Od L ρ E ev x) → Sat L ρ h.get fr w.heap → ∃ y, rel L ρ v y ∧ ∀ o : Oper, o.op = op → (execOp ev o).run P w = .ok (.value y) w

theorem arr_map {α β : Type} (f : α → β) (l : Array α) : l.map f = (l.toList.map f).toArray := by apply Array.ext'; simp

theorem QOk.of {op : Op} {v : V} {xs : List Operand} {sem : (Operand → Value) → Sem Value} (hq : Qs P E h xs sem v) (hx : ∀ x ∈ xs, x ∈ op.operands.toList) (he : ∀ (ev : Operand → Value) (o : Oper) (w : World), o.op = op → (execOp ev o).run P w = (do pure (.value (← sem ev)) : Sem Next).run P w) : QOk P E h op v := by
  intro L ρ fr ev w ho hs
  obtain ⟨y, h1, h2⟩ := hq L ρ fr ev w (fun x hm => ho x (hx x hm)) hs
  refine ⟨y, h1, fun o e => ?_⟩
  rw [he ev o w e]
  simp only [Sem.run_bind, h2, Result.andThen_ok]; rfl

theorem opQ_sound (hT : TyOk P B) {op : Op} {κ : V → Option R} (hh : opQ B E h op κ = some r) : ∃ v, κ v = some r ∧ QOk P E h op v := by
  cases op <;> simp only [opQ] at hh <;> first | (cases hh; done) | skip
  case move x =>
    obtain ⟨v, h1, h2⟩ := qMove_ok (P := P) (h := h) hh
    exact ⟨v, h1, .of h2 (by simp [Op.operands]) (fun ev o w e => by simp only [execOp, e]; rfl)⟩
  case assign x =>
    obtain ⟨v, h1, h2⟩ := qMove_ok (P := P) (h := h) hh
    exact ⟨v, h1, .of h2 (by simp [Op.operands]) (fun ev o w e => by simp only [execOp, e]; rfl)⟩
  case pick c a b =>
    obtain ⟨v, h1, h2⟩ := qPick_ok (P := P) (h := h) hh
    exact ⟨v, h1, .of h2 (by simp [Op.operands]) (fun ev o w e => by simp only [execOp, e]; cases ev c <;> simp [asBool])⟩
  case build t ps =>
    obtain ⟨v, h1, h2⟩ := qBuild_ok (P := P) (h := h) hT hh
    exact ⟨v, h1, .of h2 (by simp [Op.operands]) (fun ev o w e => by simp only [execOp, e, arr_map])⟩
  case load t x =>
    obtain ⟨v, h1, h2⟩ := qLoad_ok (P := P) (h := h) hT hh
    exact ⟨v, h1, .of h2 (by simp [Op.operands]) (fun ev o w e => by simp only [execOp, e])⟩
  case nilCheck x =>
    obtain ⟨v, h1, h2⟩ := qNilCheck_ok (P := P) (h := h) hh
    exact ⟨v, h1, fun L ρ fr ev w ho hs => h2 L ρ fr ev w (fun y hy => ho y (by simpa [Op.operands] using hy)) hs⟩
  case binOp op t x y yt =>
    have gen : ∀ {v}, Qs P E h [x, y] (fun ev => do eqGuard op t x y (ev x) (ev y); binOp op t (ev x) (ev y)) v → QOk P E h (.binOp op t x y yt) v := fun h2 =>
      .of h2 (by simp [Op.operands]) (fun ev o w e => by simp only [execOp, e])
    cases op <;> simp only [qBinO] at hh
    case shl => obtain ⟨v, h1, h2⟩ := qShl_ok (P := P) (h := h) (t := t) hh; exact ⟨v, h1, gen h2⟩
    case shr => obtain ⟨v, h1, h2⟩ := qShr_ok (P := P) (h := h) (t := t) hh; exact ⟨v, h1, gen h2⟩
    case quo => obtain ⟨v, h1, h2⟩ := qQuo_ok (P := P) (h := h) (t := t) hh; exact ⟨v, h1, gen h2⟩
    case rem => obtain ⟨v, h1, h2⟩ := qRem_ok (P := P) (h := h) (t := t) hh; exact ⟨v, h1, gen h2⟩
    all_goals (obtain ⟨v, h1, h2⟩ := qBin_ok (P := P) (h := h) hT hh; exact ⟨v, h1, gen h2⟩)
  case unOp op t x =>
    obtain ⟨v, h1, h2⟩ := qUn_ok (P := P) (h := h) hh
    exact ⟨v, h1, .of h2 (by simp [Op.operands]) (fun ev o w e => by simp only [execOp, e])⟩
  case convert s d x =>
    obtain ⟨v, h1, h2⟩ := qConvert_ok (P := P) (h := h) hT hh
    exact ⟨v, h1, .of h2 (by simp [Op.operands]) (fun ev o w e => by simp only [execOp, e])⟩
  case makeInterface t x =>
    obtain ⟨v, h1, h2⟩ := qMkI_ok (P := P) (h := h) hT hh
    exact ⟨v, h1, .of h2 (by simp [Op.operands]) (fun ev o w e => by simp only [execOp, e])⟩
  case makeFunc fn a b =>
    obtain ⟨v, h1, h2⟩ := qMkF_ok (P := P) (h := h) hh
    exact ⟨v, h1, .of h2 (by simp [Op.operands]) (fun ev o w e => by simp only [execOp, e, arr_map])⟩
  case slice t x lo hi mx =>
    obtain ⟨v, h1, h2⟩ := qSlice_ok (P := P) (h := h) hT hh
    exact ⟨v, h1, .of h2 (by simp [Op.operands]) (fun ev o w e => by simp only [execOp, e])⟩
  case fieldAddr s x i =>
    obtain ⟨v, h1, h2⟩ := qFieldAddr_ok (P := P) (h := h) hT hh
    exact ⟨v, h1, .of h2 (by simp [Op.operands]) (fun ev o w e => by simp only [execOp, e])⟩
  case field s x i =>
    obtain ⟨v, h1, h2⟩ := qField_ok (P := P) (h := h) hT hh
    exact ⟨v, h1, .of h2 (by simp [Op.operands]) (fun ev o w e => by simp only [execOp, e])⟩
  case indexAddr t x i =>
    obtain ⟨v, h1, h2⟩ := qIndexAddr_ok (P := P) (h := h) hT hh
    exact ⟨v, h1, .of h2 (by simp [Op.operands]) (fun ev o w e => by simp only [execOp, e])⟩
  case index t x i =>
    obtain ⟨v, h1, h2⟩ := qIndex_ok (P := P) (h := h) hT hh
    exact ⟨v, h1, .of h2 (by simp [Op.operands]) (fun ev o w e => by simp only [execOp, e])⟩
  case lookup t x i ok =>
    obtain ⟨v, h1, h2⟩ := qLookup_ok (P := P) (h := h) hT hh
    exact ⟨v, h1, .of h2 (by simp [Op.operands]) (fun ev o w e => by simp only [execOp, e])⟩
  case entry x =>
    obtain ⟨v, h1, h2⟩ := qEntry_ok (P := P) (h := h) hh
    exact ⟨v, h1, .of h2 (by simp [Op.operands]) (fun ev o w e => by simp only [execOp, e])⟩
  case typeAssert x xt t ok =>
    obtain ⟨v, h1, h2⟩ := qTA_ok (P := P) (h := h) (xt := xt) hT hh
    exact ⟨v, h1, .of h2 (by simp [Op.operands]) (fun ev o w e => by simp only [execOp, e])⟩
  case extract x i =>
    obtain ⟨v, h1, h2⟩ := qExtract_ok (P := P) (h := h) hh
    exact ⟨v, h1, .of h2 (by simp [Op.operands]) (fun ev o w e => by simp only [execOp, e])⟩
  case call c =>
    unfold qCall at hh
    split at hh
    · rename_i b x t
      split at hh
      · obtain ⟨v, h1, h2⟩ := qLen_ok (P := P) (h := h) (ats := []) (ty := 0) hT hh
        refine ⟨v, h1, fun L ρ fr ev w ho hs => ?_⟩
        obtain ⟨y, h3, h4⟩ := h2 L ρ fr ev w (fun y hy => ho y (by simpa [Op.operands, Call.operands] using hy)) hs
        refine ⟨y, h3, fun o e => ?_⟩
        have : (Builtin.len_ #[t] o.type #[ev x]).run P w = .ok y w := h4
        simp [execOp, e, resolve, invoke, builtin, this]
      · obtain ⟨v, h1, h2⟩ := qCap_ok (P := P) (h := h) (ats := []) (ty := 0) hT hh
        refine ⟨v, h1, fun L ρ fr ev w ho hs => ?_⟩
        obtain ⟨y, h3, h4⟩ := h2 L ρ fr ev w (fun y hy => ho y (by simpa [Op.operands, Call.operands] using hy)) hs
        refine ⟨y, h3, fun o e => ?_⟩
        have : (Builtin.cap_ #[t] o.type #[ev x]).run P w = .ok y w := h4
        simp [execOp, e, resolve, invoke, builtin, this]
      · cases hh
    · rename_i b x y ats
      split at hh
      · obtain ⟨v, h1, h2⟩ := qMin_ok (P := P) (h := h) (ats := #[]) (ty := 0) hh
        refine ⟨v, h1, fun L ρ fr ev w ho hs => ?_⟩
        obtain ⟨z, h3, h4⟩ := h2 L ρ fr ev w (fun y hy => ho y (by simpa [Op.operands, Call.operands] using hy)) hs
        refine ⟨z, h3, fun o e => ?_⟩
        have : (Builtin.min_ ats o.type #[ev x, ev y]).run P w = .ok z w := h4
        simp [execOp, e, resolve, invoke, builtin, this]
      · obtain ⟨v, h1, h2⟩ := qMax_ok (P := P) (h := h) (ats := #[]) (ty := 0) hh
        refine ⟨v, h1, fun L ρ fr ev w ho hs => ?_⟩
        obtain ⟨z, h3, h4⟩ := h2 L ρ fr ev w (fun y hy => ho y (by simpa [Op.operands, Call.operands] using hy)) hs
        refine ⟨z, h3, fun o e => ?_⟩
        have : (Builtin.max_ ats o.type #[ev x, ev y]).run P w = .ok z w := h4
        simp [execOp, e, resolve, invoke, builtin, this]
      · cases hh
    · cases hh
end
end Go.Kn
