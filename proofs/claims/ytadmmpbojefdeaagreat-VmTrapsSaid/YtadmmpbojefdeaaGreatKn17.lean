/-
  The engine is right: states of a walk, calls, results, guards. Conditions: none.
-/
import Derived.Test.YtadmmpbojefdeaaGreatKn16
import Derived.Defers
import Derived.Recover
import Derived.Orders
namespace Go.Kn
open Go
variable {R : Type} {r : R}

def operOk (nt : Nat) (o : Oper) : Bool := match o.dst with
  | some d => Nat.blt d nt
  | none => true

def edgeOn (o : Oper) : List Nat := (o.after.toList.filter (Region.binds .any)).map (·.on)

/-- Each slot that is looked at, or written, and written by another one, too, is waited for. -/
def depOk (ops : List Oper) : Bool :=
  (List.range ops.length).all fun i => (List.range ops.length).all fun j => match ops[i]?, ops[j]? with
    | some oi, some oj => (match oj.dst with
      | some d => (!(slotsOf ops oi).contains d || (i != j && (edgeOn oi).contains j) || (asg oj.op && (edgeOn oj).contains i)) && (i == j || oi.dst != some d)
      | none => true)
    | _, _ => true

def ltOk (ops : List Oper) : Bool := (List.range ops.length).all fun i => match ops[i]? with
  | some o => (edgeOn o).all fun j => Nat.blt j i
  | none => true

def codeOk (nt : Nat) : Code → Bool
  | .region _ ops draw => ops.toList.all (operOk nt) && (!draw || (depOk ops.toList && ltOk ops.toList && Nat.blt ops.size 64))
  | .seq a b => codeOk nt a && codeOk nt b
  | .cond _ a b => codeOk nt a && codeOk nt b
  | .block _ b => codeOk nt b
  | .loop b => codeOk nt b
  | _ => true

/-- What a call returns is known, and it only adds to the heap. -/
def PureOk (P : Program) (g : Nat) (vs us : List V) : Prop := (∃ F, P.funcs[g]? = some F ∧ F.name ≠ "runtime.NumGoroutine" ∧ F.body.isSome = true) ∧
  ∀ L ρ (xs : List Value) (w : World), rels L ρ vs xs → Calls P g xs.toArray w fun e w' => ∃ x, e = .returned x ∧ (∀ L ρ, rel L ρ (tupV us) x) ∧ Frm w w' ∧ ∀ b, b < w.heap.size → w'.heap[b]? = w.heap[b]?

structure FnOk (P : Program) (B : Tb) : Prop where
  pure : ∀ g vs us, B.pure g vs = some us → PureOk P g vs us
  fn : ∀ g F, B.fn g = some F → P.funcs[g]? = some F ∧ F.name ≠ "runtime.NumGoroutine" ∧ ∀ c, F.body = some c → codeOk F.ntmps c = true
  mt : ∀ t m g o, B.mt t m = some (g, o) → ∃ i me pr, P.info? t = some i ∧ i.methods.find? (·.name == m) = some me ∧ me.func = some (g, pr) ∧ (match o with
    | none => me.path = #[] ∧ ((pr = true ∧ ∃ e, P.underlying t = some (.pointer e)) ∨ (pr = false ∧ ∃ d, P.underlying t = some d ∧ ∀ e, d ≠ .pointer e))
    | some off => pr = true ∧ ∃ st fs f i d, me.path = #[st] ∧ st.deref = true ∧ P.underlying st.struct = some (.struct fs) ∧ fs[st.index]? = some f ∧ f.offset = off ∧ P.info? f.type = some i ∧ i.size ≠ 0 ∧ P.underlying f.type = some d ∧ (∀ e, d ≠ .pointer e))
  mixed : P.follows .mixedOrders = true

def DefOk (P : Program) (d : Deferred) (g : Nat) (xs : List Value) : Prop := (∃ fv cap, d.target = .fn fv cap) ∧ ∀ F w, P.funcs[g]? = some F → F.name ≠ "runtime.NumGoroutine" → F.body.isSome = true → (invoke d.target d.args).run P w = .ok (.enter g xs.toArray) w

def DsOk (P : Program) (L : Nat → Prop) (ρ : Nat → Loc) : Ds → List Deferred → Prop
  | [], dl => dl = []
  | (g, vs) :: ds, dl => ∃ d dl' xs, dl = d :: dl' ∧ rels L ρ vs xs ∧ DefOk P d g xs ∧ DsOk P L ρ ds dl'

theorem DsOk.up {P : Program} {L L' : Nat → Prop} {ρ ρ' : Nat → Loc} (he : Ext L ρ L' ρ') : ∀ {ds : Ds} {dl : List Deferred}, DsOk P L ρ ds dl → DsOk P L' ρ' ds dl
  | [], dl, h => h
  | (g, vs) :: ds, dl, h => by
    simp only [DsOk] at h ⊢
    obtain ⟨d, dl', xs, h1, h2, h3, h4⟩ := h
    exact ⟨d, dl', xs, h1, rels_up he h2, h3, h4.up he⟩

section
variable {P : Program} {B : Tb} {E : En} {h : Hp}

theorem run_callFunc {g : Nat} {F : Func} {args : Array Value} (hf : P.funcs[g]? = some F) (hn : F.name ≠ "runtime.NumGoroutine") (hb : F.body.isSome = true) (w : World) : (callFunc g args).run P w = .ok (.enter g args) w := by
  obtain ⟨c, hc⟩ := Option.isSome_iff_exists.1 hb
  simp [callFunc, hf, hn, hc]

theorem calleeK_some (hF : FnOk P B) {c : Call} {κ : Nat → List V → Option R} (hh : calleeK B E c κ = some r) : ∃ g vs, κ g vs = some r ∧
    ∀ L ρ (ev : Operand → Value) (ty : TypeId), (∀ x ∈ c.operands.toList, Od L ρ E ev x) → ∃ d xs, (∀ w, (resolve ev c ty).run P w = .ok d w) ∧ rels L ρ vs xs ∧ DefOk P d g xs := by
  unfold calleeK at hh
  split at hh
  · rename_i f xs ats
    obtain ⟨v, h1, h2⟩ := opv_some hh
    split at h2
    · rename_i g a b
      obtain ⟨vs, h3, h4⟩ := opvs_some h2
      simp only [appK_eq] at h3
      refine ⟨_, _, h3, fun L ρ ev ty ho => ?_⟩
      have hx := ho f (by simp [Call.operands]) _ h1
      have hs := h4 L ρ ev (fun y hy => ho y (by simp [Call.operands, hy]))
      simp only [rel] at hx
      obtain ⟨as, bs, ex, e1, e2⟩ := hx
      refine ⟨{ target := .fn (.func g) bs.toArray, args := as.toArray ++ (xs.map ev).toArray }, as ++ (xs.map ev ++ bs), fun w => ?_, rels_append e1 (rels_append hs e2), ⟨_, _, rfl⟩, fun F w hf hn hb => ?_⟩
      · simp [resolve, ex, Deferred.ofValue]
      · have := run_callFunc (args := (as ++ (xs.map ev ++ bs)).toArray) hf hn hb w
        simp only [invoke]
        rw [← this]
        congr 2
        simp
    · cases h2
  · rename_i x name xs ats
    obtain ⟨v, h1, h2⟩ := opv_some hh
    split at h2
    · rename_i t u
      split at h2
      · rename_i g off hmt
        obtain ⟨vs, h3, h4⟩ := opvs_some h2
        obtain ⟨i, me, pr, m1, m2, m3, m4⟩ := hF.mt _ _ _ _ hmt
        have hti : ∀ w, (typeInfo t).run P w = .ok i w := fun w => by simp [typeInfo, m1]
        have fin : ∀ {L ρ} {ev : Operand → Value} {u' : V} {y y' : Value} {ty : TypeId}, ev x = .iface t y → rel L ρ u' y' → rels L ρ vs (xs.map ev) → (∀ n w, (method (n + 1) t y name).run P w = .ok (g, y') w) →
            ∃ d zs, (∀ w, (resolve ev ⟨.invoke x name, ⟨xs⟩, ats⟩ ty).run P w = .ok d w) ∧ rels L ρ (u' :: vs) zs ∧ DefOk P d g zs := by
          intro L ρ ev u' y y' ty ex hy hs hm
          refine ⟨{ target := .fn (.method name) #[], args := #[ev x] ++ (xs.map ev).toArray }, y' :: xs.map ev, fun w => by simp [resolve], rels_mk hy hs, ⟨_, _, rfl⟩, fun F w hf hn hb => ?_⟩
          have hc := run_callFunc (args := (y' :: xs.map ev).toArray) hf hn hb w
          have hm' : (method (P.types.size + Made.depth) t y name).run P w = .ok (g, y') w := hm (P.types.size + 99) w
          have ha : (#[ev x] ++ (xs.map ev).toArray : Array Value)[0]? = some (ev x) := by simp
          have hcm : ∀ args, (callMethod (ev x) name args).run P w = (callFunc g (#[y'] ++ args)).run P w := by
            intro args
            rw [ex]
            simp only [callMethod, Sem.run_bind, run_program, Result.andThen_ok, hm']
          have hi : invoke (.fn (.method name) #[]) (#[ev x] ++ (xs.map ev).toArray) = callMethod (ev x) name ((#[ev x] ++ (xs.map ev).toArray).extract 1 (#[ev x] ++ (xs.map ev).toArray).size) := by
            simp only [invoke, ha]
          show (invoke (.fn (.method name) #[]) (#[ev x] ++ (xs.map ev).toArray)).run P w = _
          rw [hi, hcm, ← hc]
          congr 2
          simp
          exact List.take_of_length_le (by simp)
        cases off with
        | some off =>
          simp only at h3 m4
          obtain ⟨k, o, rfl, h5⟩ := asPtr_some h3
          rw [natK_eq] at h5
          refine ⟨_, _, h5, fun L ρ ev ty ho => ?_⟩
          have hx := ho x (by simp [Call.operands]) _ h1
          have hs := h4 L ρ ev (fun y hy => ho y (by simp [Call.operands, hy]))
          simp only [rel] at hx
          obtain ⟨y, ex, hL, ey⟩ := hx
          obtain ⟨rfl, st, fs, f, fi, d, p1, p2, p3, p4, p5, p6, p7, p8, p9⟩ := m4
          refine fin (y' := .pointer (some ⟨(ρ k).b, (ρ k).base + (o + off), none⟩)) ex (by simp only [rel]; exact ⟨hL, rfl⟩) hs (fun n w => ?_)
          have hfp : (fieldPlace ⟨(ρ k).b, (ρ k).base + o, none⟩ f).run P w = .ok ⟨(ρ k).b, (ρ k).base + (o + off), none⟩ w := by
            simp [fieldPlace, run_sizeOf p6, p7, add_lit, p5, Nat.add_assoc]
          have hra : (receiverAt f.type (.var ⟨(ρ k).b, (ρ k).base + (o + off), none⟩) true none).run P w = .ok (.pointer (some ⟨(ρ k).b, (ρ k).base + (o + off), none⟩)) w := by
            simp only [receiverAt, Sem.run_bind, run_underlying p8, Result.andThen_ok]
            cases d <;> first | exact absurd rfl (p9 _) | rfl
          simp only [method, Sem.run_bind, hti, Result.andThen_ok, m2, p1, follow, run_underlying p3, p4, p2, ey, Place.get, Sem.run_pure, asAddr, hfp, m3]
          simp [hfp, hra]
        | none =>
          simp only at h3 m4
          refine ⟨_, _, h3, fun L ρ ev ty ho => ?_⟩
          have hx := ho x (by simp [Call.operands]) _ h1
          have hs := h4 L ρ ev (fun y hy => ho y (by simp [Call.operands, hy]))
          simp only [rel] at hx
          obtain ⟨y, ex, ey⟩ := hx
          obtain ⟨p1, p2⟩ := m4
          refine fin ex ey hs (fun n w => ?_)
          have hra : ∀ wr, (receiverAt t (.val y) pr wr).run P w = .ok y w := by
            intro wr
            rcases p2 with ⟨rfl, e, hd⟩ | ⟨rfl, d, hd, hne⟩
            · simp only [receiverAt, Sem.run_bind, run_underlying hd, Result.andThen_ok, Place.get]; rfl
            · simp only [receiverAt, Sem.run_bind, run_underlying hd, Result.andThen_ok]
              cases d <;> first | exact absurd rfl (hne _) | rfl
          simp only [method, Sem.run_bind, hti, Result.andThen_ok, m2, p1, follow, Sem.run_pure, m3, hra]
      · cases h2
    · cases h2
  · cases hh

/-! Guards. -/
theorem nthOp_eq : ∀ {l : List Oper} {j d : Nat}, nthOp l j = some d → (l[j]?).bind (·.dst) = some d
  | [], _, _, h => by simp [nthOp] at h
  | o :: l, j, d, h => by
    simp only [nthOp] at h
    cases hb : Nat.beq j 0 with
    | true => rw [hb] at h; have := nat_beq hb; subst this; simpa using h
    | false =>
      rw [hb] at h
      have hn := nat_beq_ne hb
      obtain ⟨m, rfl⟩ : ∃ m, j = m + 1 := ⟨j - 1, by omega⟩
      simpa using nthOp_eq (show nthOp l (m + 1 - 1) = some d from h)

/-- A guard, as far as its slot is known. -/
def GdOk (L : Nat → Prop) (ρ : Nat → Loc) (E : En) (ops : List Oper) (g : Option (Nat × Bool)) (tmps : Array Value) : Prop := ∀ j want d v, g = some (j, want) → nthOp ops j = some d → E.get d = some v → ∃ x, tmps[d]? = some x ∧ rel L ρ v x

theorem GdOk.of {L : Nat → Prop} {ρ : Nat → Loc} {a : Act} (he : EnvOk L ρ E a) (ops : List Oper) (g : Option (Nat × Bool)) : GdOk L ρ E ops g a.tmps := fun _ _ d v _ _ hv => he d v hv

theorem guardK_some {ops : List Oper} {g : Option (Nat × Bool)} {κ : Bool → Option R} (hh : guardK ops E g κ = some r) : ∃ b, κ b = some r ∧ ∀ L ρ (tmps : Array Value) (o : Oper), GdOk L ρ E ops g tmps → o.guard = g → Region.wanted o (yielded ⟨ops⟩ tmps) = b := by
  unfold guardK at hh
  split at hh
  · exact ⟨true, hh, fun L ρ tmps o _ hg => by simp [Region.wanted, hg]⟩
  · rename_i j want
    split at hh
    · rename_i d hd
      have hd' := nthOp_eq hd
      have hd2 : ((⟨ops⟩ : Array Oper)[j]?).bind (·.dst) = some d := by simpa using hd'
      split at hh
      · rename_i hv
        refine ⟨_, hh, fun L ρ tmps o hs hg => ?_⟩
        obtain ⟨x, hx, hr⟩ := hs _ _ _ _ rfl hd hv
        simp only [rel] at hr; subst hr
        simp [Region.wanted, hg, yielded, hd', hx]
      · rename_i hv
        refine ⟨_, hh, fun L ρ tmps o hs hg => ?_⟩
        obtain ⟨x, hx, hr⟩ := hs _ _ _ _ rfl hd hv
        simp only [rel] at hr; subst hr
        simp [Region.wanted, hg, yielded, hd', hx]
      · rename_i hv
        refine ⟨_, hh, fun L ρ tmps o hs hg => ?_⟩
        obtain ⟨x, hx, hr⟩ := hs _ _ _ _ rfl hd hv
        simp only [rel] at hr; subst hr
        simp [Region.wanted, hg, yielded, hd', hx]
      · rename_i hv
        refine ⟨_, hh, fun L ρ tmps o hs hg => ?_⟩
        obtain ⟨x, hx, hr⟩ := hs _ _ _ _ rfl hd hv
        simp only [rel] at hr; subst hr
        simp [Region.wanted, hg, yielded, hd', hx]
      · rename_i hv
        refine ⟨_, hh, fun L ρ tmps o hs hg => ?_⟩
        obtain ⟨x, hx, hr⟩ := hs _ _ _ _ rfl hd hv
        simp only [rel] at hr
        obtain ⟨xs, rfl, _⟩ := hr
        simp [Region.wanted, hg, yielded, hd', hx]
      · cases hh
    · cases hh

/-! Results. -/
def resF (tmps : Array Value) : ResultVar → Sem Value
  | .tmp t => pure (tmps.getD t undef)
  | .cell c t => do loadVar t (← asAddr (tmps.getD c undef))

theorem results_eq (fn : Func) (tmps : Array Value) : results fn tmps = (do let vs ← fn.results.mapM (resF tmps); pure (if h : vs.size = 1 then vs[0] else .tuple vs)) := by
  unfold results
  congr 1

theorem resT_some (hT : TyOk P B) : ∀ {rs : List ResultVar} {κ : List V → Option R}, resT B E h rs κ = some r → ∃ vs, κ vs = some r ∧ ∀ L ρ fr (a : Act) (w : World), EnvOk L ρ E a → Sat L ρ h.get fr w.heap → ∃ xs : List Value, rels L ρ vs xs ∧ (rs.mapM (resF a.tmps)).run P w = .ok xs w
  | [], κ, hh => ⟨[], hh, fun L ρ fr a w _ _ => ⟨[], by simp [rels], by simp⟩⟩
  | .tmp t :: rs, κ, hh => by
    simp only [resT] at hh
    split at hh
    · rename_i v hv
      obtain ⟨vs, h1, h2⟩ := resT_some hT hh
      refine ⟨_, h1, fun L ρ fr a w he hs => ?_⟩
      obtain ⟨xs, h3, h4⟩ := h2 L ρ fr a w he hs
      obtain ⟨x, hx, hr⟩ := he t v hv
      exact ⟨x :: xs, rels_mk hr h3, by simp [List.mapM_cons, h4, resF, Array.getD_eq_getD_getElem?, hx]⟩
    · cases hh
  | .cell c t :: rs, κ, hh => by
    simp only [resT] at hh
    split at hh
    · rename_i v hv
      obtain ⟨k, off, rfl, h1⟩ := asPtr_some hh
      obtain ⟨b, cs, T, h2, h3⟩ := asObj_some h1
      have e : ∃ u, ofK B t cs off some = some u ∧ resT B E h rs (fun l => κ (u :: l)) = some r := by
        unfold ofK at h3 ⊢
        split at h3
        · obtain ⟨g1, g2⟩ := segK_some h3
          exact ⟨_, by rw [qLoad_ok.segK_mk g2], g1⟩
        · obtain ⟨v, g1, g2⟩ := nthK_some h3
          exact ⟨v, by rw [qLoad_ok.nthK_mk g1], g2⟩
        · cases h3
      obtain ⟨u, h4, h5⟩ := e
      obtain ⟨vs, h6, h7⟩ := resT_some hT h5
      refine ⟨_, h6, fun L ρ fr a w he hs => ?_⟩
      obtain ⟨xs, h8, h9⟩ := h7 L ρ fr a w he hs
      obtain ⟨x, hx, hr⟩ := he c _ hv
      simp only [rel] at hr
      obtain ⟨hL, rfl⟩ := hr
      obtain ⟨u', g1, g2⟩ := loadVar_ok (L := L) (ρ := ρ) (H := h.get) (fr := fr) (w := w) (k := k) (a := b) (T := T) hT h4
      cases g1
      obtain ⟨y, g3, g4⟩ := g2 hs h2
      exact ⟨y :: xs, rels_mk g3 h8, by simp [List.mapM_cons, h9, resF, Array.getD_eq_getD_getElem?, hx, asAddr, g4]⟩
    · cases hh

theorem tupV_rel {L : Nat → Prop} {ρ : Nat → Loc} {vs : List V} {xs : List Value} (hr : rels L ρ vs xs) : rel L ρ (tupV vs) (if h : xs.toArray.size = 1 then xs.toArray[0] else .tuple xs.toArray) := by
  match vs, hr with
  | [], hr => have := rels_nil hr; subst this; simp [tupV, rel, rels]
  | [u], hr =>
    obtain ⟨y, q, rfl, g3, g4⟩ := rels_cons hr
    have := rels_nil g4; subst this
    simpa [tupV] using g3
  | u1 :: u2 :: us, hr =>
    have hl2 := rels_length hr
    have hne : ¬ xs.toArray.size = 1 := by simp at hl2 ⊢; omega
    rw [dif_neg hne]
    simp only [tupV, rel]
    exact ⟨xs, rfl, hr⟩

theorem results_some (hT : TyOk P B) {F : Func} {κ : List V → Option R} (hh : resT B E h F.results.toList κ = some r) : ∃ vs, κ vs = some r ∧ ∀ L ρ fr (a : Act) (w : World), EnvOk L ρ E a → Sat L ρ h.get fr w.heap → ∃ x, rel L ρ (tupV vs) x ∧ (results F a.tmps).run P w = .ok x w := by
  obtain ⟨vs, h1, h2⟩ := resT_some hT hh
  refine ⟨vs, h1, fun L ρ fr a w he hs => ?_⟩
  obtain ⟨xs, h3, h4⟩ := h2 L ρ fr a w he hs
  refine ⟨_, tupV_rel h3, ?_⟩
  have hm : (F.results.mapM (resF a.tmps)).run P w = .ok xs.toArray w := by
    rw [Array.mapM_eq_mapM_toList, Sem.run_map, h4]; rfl
  rw [results_eq, Sem.run_bind, hm]
  rfl

/-! Arguments. -/
theorem argT_some : ∀ {vs : List V} {i : Nat} {e : En} {κ : En → Option R}, argT i vs e κ = some r → ∃ e', κ e' = some r ∧ ∀ j, e'.get j = if i ≤ j ∧ j < i + vs.length then vs[j - i]? else e.get j
  | [], i, e, κ, hh => ⟨e, hh, fun j => by rw [if_neg (by simp)]⟩
  | v :: vs, i, e, κ, hh => by
    simp only [argT] at hh
    obtain ⟨e1, h1, h2⟩ := Tr.setK_some _ hh
    rw [natK_eq] at h1
    obtain ⟨e2, h3, h4⟩ := argT_some h1
    refine ⟨e2, h3, fun j => ?_⟩
    rw [h4 j]
    simp only [List.length_cons]
    by_cases hj : j = i
    · subst hj
      rw [if_neg (by omega), h2, if_pos rfl, if_pos (by omega)]
      simp
    · by_cases hc : i ≤ j ∧ j < i + (vs.length + 1)
      · rw [if_pos hc, if_pos (by omega)]
        obtain ⟨m, hm⟩ : ∃ m, j - i = m + 1 := ⟨j - i - 1, by omega⟩
        rw [hm, show j - i.succ = m by omega, List.getElem?_cons_succ]
      · rw [if_neg hc, if_neg (by omega), h2, if_neg hj]

theorem args_env {L : Nat → Prop} {ρ : Nat → Loc} {vs : List V} {xs : List Value} {κ : En → Option R} (hh : argT 0 vs .lf κ = some r) : ∃ e, κ e = some r ∧ ∀ {L ρ} {xs : List Value} (n : Nat), rels L ρ vs xs → EnvOk L ρ e { tmps := xs.toArray ++ Array.replicate (n - xs.toArray.size) undef, defers := [] } := by
  obtain ⟨e, h1, h2⟩ := argT_some hh
  refine ⟨e, h1, fun {L ρ xs} n hr i v hi => ?_⟩
  rw [h2 i] at hi
  have hl := rels_length hr
  split at hi
  · rw [Nat.sub_zero] at hi
    obtain ⟨x, hx, hv⟩ := rels_get hr hi
    have hlt := (List.getElem?_eq_some_iff.1 hx).1
    exact ⟨x, by rw [Array.getElem?_append_left (by simpa using hlt)]; simpa using hx, hv⟩
  · simp [Tr.get_lf] at hi
end
end Go.Kn
