/-
  The engine is right: regions whose order is open (2): frames, what has been reckoned. Conditions: none.
-/
import Derived.Test.YtadmmpbojefdeaaGreatKn20
namespace Go.Kn
open Go
variable {R : Type} {r : R}

section
variable {L L' : Nat → Prop} {ρ ρ' : Nat → Loc} {H H1 H2 : Nat → Option BO} {fr : Nat → Option Obj} {h h' : Array Obj}

/-- The blocks of some objects stand beside. -/
def InBlk (ρ : Nat → Loc) (H : Nat → Option BO) (F : Nat → Prop) (b : Nat) : Prop := ∃ t o, F t ∧ H t = some o ∧ owns (ρ t) o ∧ (ρ t).b = b

open Classical in
noncomputable def frOf (ρ : Nat → Loc) (H : Nat → Option BO) (F : Nat → Prop) (fr : Nat → Option Obj) (h : Array Obj) : Nat → Option Obj := fun b => if InBlk ρ H F b then h[b]? else fr b

theorem Sat.split (hs : Sat L ρ H fr h) (F : Nat → Prop) {H0 : Nat → Option BO} (h0 : ∀ t o, H0 t = some o → H t = some o ∧ ¬ F t) : Sat L ρ H0 (frOf ρ H F fr h) h := by
  have hl := hs.less (fun t o ht => (h0 t o ht).1)
  refine ⟨hl.obj, hl.inj, fun b o hb => ?_, fun t o ht hw => ?_, hl.live⟩
  · unfold frOf at hb
    split at hb
    · exact hb
    · exact hs.frm b o hb
  · unfold frOf
    obtain ⟨h1, h2⟩ := h0 t o ht
    rw [if_neg]
    · exact hs.dis t o h1 hw
    · rintro ⟨t', o', f1, f2, f3, f4⟩
      have := hs.inj _ _ _ _ f2 h1 f3 hw f4
      subst this; exact h2 f1

theorem frOf_some (hs : Sat L ρ H fr h) (F : Nat → Prop) {b : Nat} {o : Obj} (hb : fr b = some o) : frOf ρ H F fr h b = some o := by
  unfold frOf
  rw [if_neg]
  · exact hb
  · rintro ⟨t', o', f1, f2, f3, f4⟩
    have := hs.dis _ _ f2 f3
    rw [f4, hb] at this; cases this

theorem frOf_none (hs : Sat L ρ H fr h) (F : Nat → Prop) {b : Nat} (hb : frOf ρ H F fr h b = none) : fr b = none ∧ ¬ InBlk ρ H F b := by
  cases hf : fr b with
  | some o => rw [frOf_some hs F hf] at hb; cases hb
  | none =>
    refine ⟨rfl, ?_⟩
    rintro ⟨t, o, f1, f2, f3, f4⟩
    have : InBlk ρ H F b := ⟨t, o, f1, f2, f3, f4⟩
    unfold frOf at hb
    rw [if_pos this] at hb
    have := (hs.obj t o f2).block f3
    rw [f4] at this
    rw [Array.getElem?_eq_getElem this] at hb
    cases hb

theorem Sat.join (hs : Sat L ρ H fr h) (F : Nat → Prop) (hx : Ext L ρ L' ρ') (h1 : Sat L' ρ' H1 (frOf ρ H F fr h) h') (h2 : ∀ t o, H2 t = some o → H1 t = some o ∨ (F t ∧ H t = some o)) : Sat L' ρ' H2 fr h' := by
  have hρ : ∀ t o, H t = some o → ρ' t = ρ t := fun t o ht => hx.eq t (hs.live t o ht)
  have hbk : ∀ t o, F t → H t = some o → owns (ρ t) o → h'[(ρ t).b]? = h[(ρ t).b]? ∧ InBlk ρ H F (ρ t).b := by
    intro t o f1 f2 f3
    have hi : InBlk ρ H F (ρ t).b := ⟨t, o, f1, f2, f3, rfl⟩
    refine ⟨?_, hi⟩
    have hlt := (hs.obj t o f2).block f3
    have hg : frOf ρ H F fr h (ρ t).b = some h[(ρ t).b] := by
      unfold frOf; rw [if_pos hi, Array.getElem?_eq_getElem hlt]
    rw [h1.frm _ _ hg, Array.getElem?_eq_getElem hlt]
  refine ⟨fun t o ht => ?_, fun t t' o o' ht ht' hw hw' e => ?_, fun b o hb => ?_, fun t o ht hw => ?_, fun t o ht => ?_⟩
  · rcases h2 t o ht with g | ⟨f1, f2⟩
    · exact h1.obj t o g
    · rw [hρ t o f2]
      exact (hs.obj t o f2).keep hx (fun hw => (hbk t o f1 f2 hw).1)
  · have mixed : ∀ {t t' o o'}, H1 t = some o → owns (ρ' t) o → F t' → H t' = some o' → owns (ρ' t') o' → (ρ' t).b = (ρ' t').b → False := by
      intro t t' o o' g hw f1 f2 hw' e
      rw [hρ _ _ f2] at hw' e
      have := frOf_none hs F (h1.dis t o g hw)
      rw [e] at this
      exact this.2 (hbk _ _ f1 f2 hw').2
    rcases h2 t o ht with g | ⟨f1, f2⟩ <;> rcases h2 t' o' ht' with g' | ⟨f1', f2'⟩
    · exact h1.inj _ _ _ _ g g' hw hw' e
    · exact (mixed g hw f1' f2' hw' e).elim
    · exact (mixed g' hw' f1 f2 hw e.symm).elim
    · rw [hρ _ _ f2] at hw e
      rw [hρ _ _ f2'] at hw' e
      exact hs.inj _ _ _ _ f2 f2' hw hw' e
  · exact h1.frm _ _ (frOf_some hs F hb)
  · rcases h2 t o ht with g | ⟨f1, f2⟩
    · exact (frOf_none hs F (h1.dis t o g hw)).1
    · rw [hρ _ _ f2] at hw ⊢
      exact hs.dis _ _ f2 hw
  · rcases h2 t o ht with g | ⟨f1, f2⟩
    · exact h1.live t o g
    · exact hx.sub _ (hs.live t o f2)
end

def QF (P : Program) (E : En) (H : Nat → Option BO) (op : Op) (v : V) : Prop := ∀ L ρ fr ev w, (∀ x ∈ op.operands.toList, Od L ρ E ev x) → Sat L ρ H fr w.heap → ∃ y, rel L ρ v y ∧ ∀ o : Oper, o.op = op → (execOp ev o).run P w = .ok (.value y) w

def GK (ops : List Oper) (e : En) (o : Oper) (b : Bool) : Prop := ∀ L ρ (tmps : Array Value), GdOk L ρ e ops o.guard tmps → Region.wanted o (yielded ⟨ops⟩ tmps) = b

theorem opt_ext {α β : Type} {f g : α → Option β} (h : ∀ t o, f t = some o ↔ g t = some o) : f = g := by
  funext t
  cases hf : f t with
  | some o => exact ((h t o).1 hf).symm
  | none =>
    cases hg : g t with
    | none => rfl
    | some o => rw [(h t o).2 hg] at hf; cases hf

/-- They say the same of some slots. -/
def Agr (S : List Nat) (e e' : En) : Prop := ∀ t ∈ S, e.get t = e'.get t

theorem opdV_agr {e e' : En} {x : Operand} (h : ∀ t, x = .tmp t → e.get t = e'.get t) : opdV e x = opdV e' x := by
  cases x with
  | tmp t => 
    have := h t rfl
    show (Option.rec none some (e.get t) : Option V) = (Option.rec none some (e'.get t) : Option V)
    rw [this]
  | _ => rfl

theorem Agr.op {ops : List Oper} {o : Oper} {e e' : En} (h : Agr (slotsOf ops o) e e') {x : Operand} (hx : x ∈ o.op.operands.toList) : opdV e x = opdV e' x := by
  refine opdV_agr fun t ht => h t ?_
  subst ht
  simp only [slotsOf, List.mem_append]
  left
  unfold opSlots
  rw [List.mem_filterMap]
  exact ⟨_, hx, rfl⟩

theorem Agr.gk {ops : List Oper} {o : Oper} {e e' : En} (h : Agr (slotsOf ops o) e e') {b : Bool} (hg : GK ops e o b) : GK ops e' o b := by
  intro L ρ tmps hd
  refine hg L ρ tmps fun j want d v hj hn hv => hd j want d v hj hn ?_
  rw [← h d]
  · exact hv
  · simp [slotsOf, hj, hn]

theorem Agr.qf {P : Program} {ops : List Oper} {o : Oper} {e e' : En} (h : Agr (slotsOf ops o) e e') {H : Nat → Option BO} {v : V} (hq : QF P e H o.op v) : QF P e' H o.op v := by
  intro L ρ fr ev w ho hs
  refine hq L ρ fr ev w (fun x hx => ?_) hs
  intro u hu
  rw [h.op hx] at hu
  exact ho x hx u hu

theorem Agr.ak {P : Program} {ops : List Oper} {o : Oper} {e e' : En} (h : Agr (slotsOf ops o) e e') {k : Nat} {v : V} {b : BO} (hq : AOk P e o.op k v b) : AOk P e' o.op k v b := by
  intro L ρ ev w hk ho
  refine hq L ρ ev w hk (fun x hx => ?_)
  intro u hu
  rw [h.op hx] at hu
  exact ho x hx u hu

theorem QF.less {P : Program} {e : En} {H H' : Nat → Option BO} {op : Op} {v : V} (hq : QF P e H op v) (hl : ∀ t o, H t = some o → H' t = some o) : QF P e H' op v :=
  fun L ρ fr ev w ho hs => hq L ρ fr ev w ho (hs.less hl)

/-- What has been reckoned of an operation that may not have been done. -/
inductive PK (P : Program) (ops : List Oper) (s : DSt) (d : DO) : Prop
  | off (hg : GK ops s.e d.o false) (hd : ∀ t, d.o.dst = some t → s.e.get t = some (.tup [])) (hn : ∀ p ∈ s.as, p.1 ≠ d.i)
  | q (v : V) (hg : GK ops s.e d.o true) (hd : ∀ t, d.o.dst = some t → s.e.get t = some v) (hm : (d, v) ∈ s.qs) (hq : QF P s.e (Hless s.h.get s.as (bit d.anc)) d.o.op v) (hn : ∀ p ∈ s.as, p.1 ≠ d.i)
  | a (v : V) (k : Nat) (o : BO) (hg : GK ops s.e d.o true) (hd : ∀ t, d.o.dst = some t → s.e.get t = some v) (hm : (d.i, k) ∈ s.as) (ho : s.h.get k = some o) (ha : AOk P s.e d.o.op k v o)

def isL (listed : Array Bool) (i : Nat) : Prop := listed.getD i false = true
def cntL (listed : Array Bool) : Nat := listed.toList.count true

structure AInv (ops : List Oper) (s : DSt) (l : List DO) : Prop where
  ok : ∀ d ∈ l, DoOk ops d ∧ ¬ bit s.dn d.i
  nd : (l.map (·.i)).Nodup
  cov : ∀ i, i < ops.length → bit s.dn i ∨ ∃ d ∈ l, d.i = i
  cls : Closed ops (bit s.dn)
  as1 : ∀ p ∈ s.as, bit s.dn p.1 ∧ p.2 < s.nk
  asu : ∀ p ∈ s.as, ∀ q ∈ s.as, p.1 = q.1 ∨ p.2 = q.2 → p = q

/-- It writes what another one looks at that does not wait for it. -/
def WarP (ops : List Oper) (j : Nat) (oj : Oper) : Prop := ∃ i oi t, ops[i]? = some oi ∧ oj.dst = some t ∧ t ∈ slotsOf ops oi ∧ ¬ (i ≠ j ∧ j ∈ edgeOn oi)

theorem DoOk.noWar {ops : List Oper} (hdep : DepOk ops) (hlt : LtOk ops) {d : DO} (hd : DoOk ops d) (hw : d.war = false) : ¬ WarP ops d.i d.o := by
  rintro ⟨i, oi, t, h1, h2, h3, h4⟩
  rcases hdep.looks i d.i oi d.o t h1 hd.at_ h2 h3 with h | ⟨h5, h6⟩
  · exact h4 h
  · have := hlt _ _ hd.at_ _ h6
    exact hd.war hw h5 i oi t h1 (by omega) h2 h3

structure CInv (C : Ctx) (ops : List Oper) (ds : Ds) (s : DSt) (fuel : Nat) (listed : Array Bool) (L : Nat → Prop) (ρ : Nat → Loc) (a : Act) (w : World) : Prop where
  sz : listed.size = ops.length
  fu : fuel + cntL listed = ops.length
  cl : Closed ops (isL listed)
  sub : ∀ i, isL listed i → bit s.dn i
  pk : ∀ i, bit s.dn i → ¬ isL listed i → ∃ d, d.i = i ∧ DoOk ops d ∧ PK C.P ops s d
  size : C.nt ≤ a.tmps.size
  env : ∀ t v, s.e.get t = some v → (∀ j oj, ops[j]? = some oj → oj.dst = some t → isL listed j ∨ ¬ bit s.dn j) → ∃ x, a.tmps[t]? = some x ∧ rel L ρ v x
  war : ∀ j oj, bit s.dn j → ops[j]? = some oj → WarP ops j oj → isL listed j
  ds : DsOk C.P L ρ ds a.defers
  sat : Sat L ρ (Hless s.h.get s.as (isL listed)) C.fr w.heap
  bd : ∀ k, L k → k < s.nk
  pend : ∀ p ∈ s.as, ¬ isL listed p.1 → ¬ L p.2
  asn : ∀ p ∈ s.as, C.nk0 ≤ p.2
  new : ∀ k, L k → C.L0 k ∨ C.nk0 ≤ k
  nkb : C.nk0 ≤ s.nk
  frm : Frm C.w0 w
  ext : Ext C.L0 C.ρ0 L ρ

def JD (C : Ctx) (ops : List Oper) (ds : Ds) (Q : Exit → Act → World → Prop) (s : DSt) : Prop :=
  ∀ fuel listed L ρ a w, CInv C ops ds s fuel listed L ρ a w → wpAny C.P .any ⟨ops⟩ Q fuel listed a w

theorem AInv.perm {ops : List Oper} {s : DSt} {l l' : List DO} (h : AInv ops s l) (hp : l.Perm l') : AInv ops s l' :=
  ⟨fun d hd => h.ok d (hp.mem_iff.2 hd), (hp.map _).nodup_iff.1 h.nd, fun i hi => (h.cov i hi).imp id (fun ⟨d, h1, h2⟩ => ⟨d, hp.mem_iff.1 h1, h2⟩), h.cls, h.as1, h.asu⟩

/-! What is ready. -/
section
variable {ops : List Oper} {listed : Array Bool}

theorem ready_mem (hsz : listed.size = ops.length) {i : Nat} (h : i ∈ Region.ready .any ⟨ops⟩ listed) : ∃ o, ops[i]? = some o ∧ ¬ isL listed i ∧ ∀ j ∈ edgeOn o, isL listed j := by
  unfold Region.ready at h
  simp only [List.mem_filter, List.mem_range, Bool.and_eq_true, Bool.not_eq_true'] at h
  obtain ⟨h1, h2, h3⟩ := h
  have h1' : i < ops.length := by simpa using h1
  have ho : ops[i]? = some ops[i] := by simp [h1']
  refine ⟨_, ho, ?_, ?_⟩
  · have hl : i < listed.size := by omega
    simp only [isL, Array.getD_eq_getD_getElem?, Array.getElem?_eq_getElem hl, Option.getD_some] at h2 ⊢
    simp [h2]
  · intro j hj
    have ho' : (⟨ops⟩ : Array Oper)[i]? = some ops[i] := by simp [h1']
    simp only [ho', Option.map_some, Option.getD_some] at h3
    simp only [edgeOn, List.mem_map, List.mem_filter] at hj
    obtain ⟨e, ⟨he, hb⟩, rfl⟩ := hj
    rw [Array.all_eq_true'] at h3
    have := h3 e (by simpa using he)
    simpa [hb, isL] using this

theorem ready_of (hsz : listed.size = ops.length) {i : Nat} {o : Oper} (ho : ops[i]? = some o) (hn : ¬ isL listed i) (he : ∀ j ∈ edgeOn o, isL listed j) : i ∈ Region.ready .any ⟨ops⟩ listed := by
  unfold Region.ready
  have hi := (List.getElem?_eq_some_iff.1 ho).1
  have hl : i < listed.size := by omega
  simp only [List.mem_filter, List.mem_range, Bool.and_eq_true, Bool.not_eq_true']
  refine ⟨by simpa using hi, ?_, ?_⟩
  · simp only [isL, Array.getD_eq_getD_getElem?, Array.getElem?_eq_getElem hl, Option.getD_some] at hn ⊢
    simpa using hn
  · have ho' : (⟨ops⟩ : Array Oper)[i]? = some o := by simpa using ho
    simp only [ho', Option.map_some, Option.getD_some]
    rw [Array.all_eq_true']
    intro e hem
    cases hb : Region.binds .any e with
    | false => simp
    | true => simpa [hb, isL] using he e.on (by simp only [edgeOn, List.mem_map, List.mem_filter]; exact ⟨e, ⟨by simpa using hem, hb⟩, rfl⟩)

theorem ready_some (hsz : listed.size = ops.length) (hlt : LtOk ops) (i : Nat) (hi : i < ops.length) (hn : ¬ isL listed i) : Region.ready .any ⟨ops⟩ listed ≠ [] := by
  induction i using Nat.strongRecOn with
  | _ i ih =>
    intro he
    have ho : ops[i]? = some ops[i] := by simp [hi]
    by_cases hall : ∀ j ∈ edgeOn ops[i], isL listed j
    · have := ready_of hsz ho hn hall
      rw [he] at this
      cases this
    · simp only [Classical.not_forall] at hall
      obtain ⟨j, hj, hnj⟩ := hall
      have hji := hlt i _ ho j hj
      exact ih j hji (by omega) hnj he

theorem isL_set {i j : Nat} (hi : i < listed.size) : isL (listed.setIfInBounds i true) j ↔ j = i ∨ isL listed j := by
  simp only [isL, Array.getD_eq_getD_getElem?, Array.getElem?_setIfInBounds]
  by_cases h : i = j
  · subst h; simp [hi]
  · have h' : ¬ j = i := fun e => h e.symm
    simp [h, h']

theorem count_set : ∀ (l : List Bool) (i : Nat), l[i]? = some false → (l.set i true).count true = l.count true + 1
  | [], i, h => by simp at h
  | b :: l, 0, h => by simp at h; subst h; simp
  | b :: l, i + 1, h => by
    have := count_set l i (by simpa using h)
    simp only [List.set_cons_succ, List.count_cons, this]
    omega

theorem cnt_set {i : Nat} (hi : i < listed.size) (hn : ¬ isL listed i) : cntL (listed.setIfInBounds i true) = cntL listed + 1 := by
  unfold cntL
  rw [Array.toList_setIfInBounds]
  refine count_set _ _ ?_
  simp only [isL, Array.getD_eq_getD_getElem?, Array.getElem?_eq_getElem hi, Option.getD_some, Bool.not_eq_true] at hn
  simp [hi, hn]

theorem all_listed (hsz : listed.size = ops.length) (hc : cntL listed = ops.length) (i : Nat) (hi : i < ops.length) : isL listed i := by
  refine Classical.byContradiction fun hn => ?_
  have hil : i < listed.size := by omega
  have h2 := cnt_set hil hn
  have h3 : cntL (listed.setIfInBounds i true) ≤ listed.size := by
    unfold cntL
    refine Nat.le_trans List.count_le_length ?_
    simp
  omega

theorem not_all (hsz : listed.size = ops.length) {fuel : Nat} (hc : fuel + 1 + cntL listed = ops.length) : ∃ i, i < ops.length ∧ ¬ isL listed i := by
  refine Classical.byContradiction fun hne => ?_
  have hall : ∀ i, i < ops.length → isL listed i := fun i hi => Classical.byContradiction fun h => hne ⟨i, hi, h⟩
  have : cntL listed = listed.size := by
    unfold cntL
    rw [List.count_eq_length.2 ?_]
    · simp
    · intro b hb
      obtain ⟨i, hi, rfl⟩ := List.mem_iff_getElem.1 hb
      have := hall i (by simp at hi; omega)
      simp only [isL, Array.getD_eq_getD_getElem?] at this
      have hi' : i < listed.size := by simpa using hi
      rw [Array.getElem?_eq_getElem hi'] at this
      simpa using this.symm
  omega
end
end Go.Kn
