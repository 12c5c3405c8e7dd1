/-
  The engine is right: regions whose order is open (3): the steps. Conditions: none.
-/
import Derived.Test.YtadmmpbojefdeaaGreatKn21
namespace Go.Kn
open Go
variable {R : Type} {r : R}

section
variable {C : Ctx} {ops : List Oper} {ds : Ds} {s s' : DSt} {fuel : Nat} {listed : Array Bool} {L L' : Nat → Prop} {ρ ρ' : Nat → Loc} {a : Act} {w w' : World}

theorem CInv.il (hc : CInv C ops ds s fuel listed L ρ a w) {i : Nat} {o : Oper} (ho : ops[i]? = some o) : i < listed.size := by
  have := (List.getElem?_eq_some_iff.1 ho).1
  have := hc.sz
  omega

/-- One more is done. -/
theorem CInv.put (hc : CInv C ops ds s (fuel + 1) listed L ρ a w) {i : Nat} {o : Oper} (ho : ops[i]? = some o) (hn : ¬ isL listed i) (he : ∀ j ∈ edgeOn o, isL listed j) (hok : operOk C.nt o = true)
    {x : Value} (hx : Ext L ρ L' ρ') (hfr : Frm w w')
    (hsub : ∀ j, bit s.dn j → bit s'.dn j) (hi : bit s'.dn i)
    (hpk : ∀ j, bit s'.dn j → ¬ isL listed j → j ≠ i → ∃ d, d.i = j ∧ DoOk ops d ∧ PK C.P ops s' d)
    (hev : ∀ t v, s'.e.get t = some v → (o.dst = some t ∧ rel L' ρ' v x) ∨ (o.dst ≠ some t ∧ s.e.get t = some v))
    (hsat : Sat L' ρ' (Hless s'.h.get s'.as (fun j => isL listed j ∨ j = i)) C.fr w'.heap)
    (hwar : ∀ j oj, bit s'.dn j → ops[j]? = some oj → WarP ops j oj → isL listed j ∨ j = i) (hbd : ∀ k, L' k → k < s'.nk) (hnew : ∀ k, L' k → L k ∨ C.nk0 ≤ k) (hnk : s.nk ≤ s'.nk) (has : ∀ p ∈ s'.as, p ∈ s.as) (hpe : ∀ p ∈ s.as, ¬ isL listed p.1 → p.1 ≠ i → ¬ L' p.2) :
    CInv C ops ds s' fuel (listed.setIfInBounds i true) L' ρ' (a.put o.dst x) w' := by
  have hil := hc.il ho
  have hset : isL (listed.setIfInBounds i true) = fun j => isL listed j ∨ j = i := by
    funext j; rw [eq_iff_iff, isL_set hil, or_comm]
  refine ⟨by simpa using hc.sz, by rw [cnt_set hil hn]; have := hc.fu; omega, ?_, ?_, ?_, ?_, ?_, fun j oj h1 h2 h3 => by rw [hset]; exact hwar j oj h1 h2 h3, ?_, by rw [hset]; exact hsat, hbd, ?_, fun p hp => hc.asn p (has p hp), ?_, Nat.le_trans hc.nkb hnk, hc.frm.trans hfr, hc.ext.trans hx⟩
  · intro j oj hj hoj l hl
    rw [isL_set hil] at hj ⊢
    rcases hj with rfl | hj
    · rw [ho] at hoj; cases hoj; exact .inr (he l hl)
    · exact .inr (hc.cl j oj hj hoj l hl)
  · intro j hj
    rw [isL_set hil] at hj
    rcases hj with rfl | hj
    · exact hi
    · exact hsub j (hc.sub j hj)
  · intro j hj hnj
    rw [isL_set hil, not_or] at hnj
    exact hpk j hj hnj.2 hnj.1
  · have : (a.put o.dst x).tmps.size = a.tmps.size := by cases o.dst <;> simp [Act.put]
    rw [this]; exact hc.size
  · intro t v hv hall
    rcases hev t v hv with ⟨h1, h2⟩ | ⟨h1, h2⟩
    · have hlt : t < a.tmps.size := Nat.lt_of_lt_of_le (operOk_lt hok t h1) hc.size
      exact ⟨x, by rw [h1]; simp [Act.put, hlt], h2⟩
    · obtain ⟨y, h3, h4⟩ := hc.env t v h2 (fun j oj hoj hdj => by
        have := hall j oj hoj hdj
        rw [isL_set hil] at this
        rcases this with (rfl | this) | this
        · rw [ho] at hoj; cases hoj; exact absurd hdj h1
        · exact .inl this
        · exact .inr (fun hb => this (hsub j hb)))
      refine ⟨y, ?_, rel_up hx h4⟩
      cases hd : o.dst with
      | none => exact h3
      | some t' =>
        simp only [Act.put]
        rw [Array.getElem?_setIfInBounds_ne (fun e => h1 (by rw [hd, e]))]
        exact h3
  · have : (a.put o.dst x).defers = a.defers := by cases o.dst <;> rfl
    rw [this]; exact hc.ds.up hx
  · intro p hp hnp
    rw [isL_set hil, not_or] at hnp
    exact hpe p (has p hp) hnp.2 hnp.1
  · intro k hk
    rcases hnew k hk with h | h
    · exact hc.new k h
    · exact .inr h

/-- What a ready operation looks at is known. -/
theorem CInv.slots (hc : CInv C ops ds s fuel listed L ρ a w) (hdep : DepOk ops) {i : Nat} {o : Oper} (ho : ops[i]? = some o) (he : ∀ j ∈ edgeOn o, isL listed j) {t : Nat} {v : V} (ht : t ∈ slotsOf ops o) (hv : s.e.get t = some v) : ∃ x, a.tmps[t]? = some x ∧ rel L ρ v x :=
  hc.env t v hv fun j oj hoj hdj => by
    by_cases hb : bit s.dn j
    · by_cases hx : i ≠ j ∧ j ∈ edgeOn o
      · exact .inl (he j hx.2)
      · exact .inl (hc.war j oj hb hoj ⟨i, o, t, ho, hdj, ht, hx⟩)
    · exact .inr hb

theorem CInv.od (hc : CInv C ops ds s fuel listed L ρ a w) (hdep : DepOk ops) {i : Nat} {o : Oper} (ho : ops[i]? = some o) (he : ∀ j ∈ edgeOn o, isL listed j) : ∀ x ∈ o.op.operands.toList, Od L ρ s.e a.eval x := by
  intro x hx
  cases x with
  | tmp t =>
    intro v hv
    have hv' : s.e.get t = some v := opdV_tmp hv
    obtain ⟨y, h1, h2⟩ := hc.slots hdep ho he (t := t) (by
      simp only [slotsOf, List.mem_append]
      left
      unfold opSlots
      rw [List.mem_filterMap]
      exact ⟨_, hx, rfl⟩) hv'
    show rel L ρ v (a.eval (.tmp t))
    simp only [Act.eval, Array.getD_eq_getD_getElem?, h1, Option.getD_some]
    exact h2
  | const c => exact od_const
  | global g => intro v hv; cases hv
  | func g => intro v hv; cases hv; simp [rel, rels, Act.eval]

theorem CInv.gd (hc : CInv C ops ds s fuel listed L ρ a w) (hdep : DepOk ops) {i : Nat} {o : Oper} (ho : ops[i]? = some o) (he : ∀ j ∈ edgeOn o, isL listed j) : GdOk L ρ s.e ops o.guard a.tmps := by
  intro j want d v hg hn hv
  exact hc.slots hdep ho he (by simp [slotsOf, hg, hn]) hv

theorem CInv.hb (hc : CInv C ops ds s fuel listed L ρ a w) (h1 : ∀ p ∈ s.as, p.2 < s.nk) {k : Nat} {o : BO} (hk : s.h.get k = some o) : k < s.nk := by
  by_cases h : ∃ p ∈ s.as, p.2 = k
  · obtain ⟨p, hp, rfl⟩ := h; exact h1 p hp
  · exact hc.bd k (hc.sat.live k o (Hless_some.2 ⟨hk, fun p hp he => absurd ⟨p, hp, he⟩ h⟩))

/-- One that has been reckoned is done. -/
theorem CInv.step {Q : Exit → Act → World → Prop} (hc : CInv C ops ds s (fuel + 1) listed L ρ a w) (hdep : DepOk ops) (hops : ops.all (operOk C.nt) = true) (hasu : ∀ p ∈ s.as, ∀ q ∈ s.as, p.1 = q.1 ∨ p.2 = q.2 → p = q) (has1 : ∀ p ∈ s.as, p.2 < s.nk)
    {i : Nat} (hr : i ∈ Region.ready .any ⟨ops⟩ listed) (hi : bit s.dn i) {K : Act → World → Prop} (hK : ∀ L ρ a' w', CInv C ops ds s fuel (listed.setIfInBounds i true) L ρ a' w' → K a' w') : wpOp C.P ⟨ops⟩ Q i K a w := by
  obtain ⟨o, ho, hn, he⟩ := ready_mem hc.sz hr
  obtain ⟨d, rfl, hd, hp⟩ := hc.pk i hi hn
  have hdo : d.o = o := by have := hd.at_; rw [ho] at this; exact (Option.some.inj this).symm
  subst hdo
  have hok : operOk C.nt d.o = true := by
    rw [List.all_eq_true] at hops
    exact hops _ (List.mem_of_getElem? ho)
  have hgd := hc.gd hdep ho he
  have hod := hc.od hdep ho he
  have ho' : (⟨ops⟩ : Array Oper)[d.i]? = some d.o := by simpa using ho
  unfold wpOp
  rw [ho']
  show if _ then _ else _
  have hanc : ∀ j, bit d.anc j → isL listed j := hd.anc _ hc.cl he
  have hev : ∀ {v x L' ρ'}, (∀ t, d.o.dst = some t → s.e.get t = some v) → rel L' ρ' v x → ∀ t u, s.e.get t = some u → (d.o.dst = some t ∧ rel L' ρ' u x) ∨ (d.o.dst ≠ some t ∧ s.e.get t = some u) := by
    intro v x L' ρ' h1 h2 t u hu
    by_cases ht : d.o.dst = some t
    · rw [h1 t ht] at hu; cases hu; exact .inl ⟨ht, h2⟩
    · exact .inr ⟨ht, hu⟩
  have hpk : ∀ j, bit s.dn j → ¬ isL listed j → j ≠ d.i → ∃ d, d.i = j ∧ DoOk ops d ∧ PK C.P ops s d := fun j h1 h2 _ => hc.pk j h1 h2
  have hqsat : (∀ p ∈ s.as, p.1 ≠ d.i) → Sat L ρ (Hless s.h.get s.as fun j => isL listed j ∨ j = d.i) C.fr w.heap := by
    intro hne
    refine hc.sat.less fun t o ht => ?_
    rw [Hless_some] at ht ⊢
    exact ⟨ht.1, fun p hp e => (ht.2 p hp e).resolve_right (hne p hp)⟩
  cases hp with
  | off hg hdst hne =>
    rw [if_neg (by rw [hg L ρ a.tmps hgd]; simp)]
    exact hK _ _ _ _ (hc.put ho hn he hok (Ext.refl _ _) (Frm.refl _) (fun _ h => h) hi hpk (hev hdst (by simp [rel, rels, undef])) (hqsat hne) (fun j oj h1 h2 h3 => .inl (hc.war j oj h1 h2 h3)) hc.bd (fun _ h => .inl h) (Nat.le_refl _) (fun _ h => h) (fun p hp h1 _ => hc.pend p hp h1))
  | q v hg hdst hm hq hne =>
    rw [if_pos (hg L ρ a.tmps hgd)]
    have hs0 : Sat L ρ (Hless s.h.get s.as (bit d.anc)) C.fr w.heap := hc.sat.less fun t o ht => by
      rw [Hless_some] at ht ⊢
      exact ⟨ht.1, fun p hp e => hanc _ (ht.2 p hp e)⟩
    obtain ⟨y, h1, h2⟩ := hq L ρ C.fr a.eval w hod hs0
    refine .inl ?_
    unfold Oper.wp
    rw [h2 d.o rfl, Oper.upon_value]
    exact hK _ _ _ _ (hc.put ho hn he hok (Ext.refl _ _) (Frm.refl _) (fun _ h => h) hi hpk (hev hdst h1) (hqsat hne) (fun j oj h1 h2 h3 => .inl (hc.war j oj h1 h2 h3)) hc.bd (fun _ h => .inl h) (Nat.le_refl _) (fun _ h => h) (fun p hp h1 _ => hc.pend p hp h1))
  | a v k b hg hdst hm hb ha =>
    rw [if_pos (hg L ρ a.tmps hgd)]
    have hnk : ¬ L k := hc.pend _ hm hn
    obtain ⟨y, w', lc, h1, h2, h3, h4, h5, h6⟩ := ha L ρ a.eval w hnk hod
    refine .inl ?_
    unfold Oper.wp
    rw [h1 d.o rfl, Oper.upon_value]
    refine hK _ _ _ _ (hc.put ho hn he hok (updρ_ext hnk lc) h2 (fun _ h => h) hi hpk (hev hdst h6) ?_ (fun j oj h1 h2 h3 => .inl (hc.war j oj h1 h2 h3)) ?_ ?_ (Nat.le_refl _) (fun _ h => h) ?_)
    · refine (hc.sat.alloc k hnk lc b h3 h4 h5).less fun t o ht => ?_
      rw [Hless_some] at ht
      by_cases e : t = k
      · subst e; rw [updT_same, ← hb]; exact ht.1
      · rw [updT_other _ _ _ e, Hless_some]
        refine ⟨ht.1, fun p hp hpt => (ht.2 p hp hpt).resolve_right fun hpi => ?_⟩
        have := hasu p hp _ hm (.inl hpi)
        subst this
        exact e hpt.symm
    · intro j hj
      rcases hj with hj | rfl
      · exact hc.bd j hj
      · exact has1 _ hm
    · intro j hj
      rcases hj with hj | rfl
      · exact .inl hj
      · exact .inr (hc.asn _ hm)
    · intro p hp h1 hne hl
      rcases hl with hl | hl
      · exact hc.pend p hp h1 hl
      · have := hasu p hp _ hm (.inr hl)
        subst this
        exact hne rfl

/-- All that has been reckoned may be done in any order. -/
theorem drain {Q : Exit → Act → World → Prop} (hdep : DepOk ops) (hlt : LtOk ops) (hops : ops.all (operOk C.nt) = true) {l : List DO} (ha : AInv ops s l)
    (hx : ∀ fuel listed L ρ a w, CInv C ops ds s (fuel + 1) listed L ρ a w → ∀ i ∈ Region.ready .any ⟨ops⟩ listed, ¬ bit s.dn i → wpOp C.P ⟨ops⟩ Q i (wpAny C.P .any ⟨ops⟩ Q fuel (listed.setIfInBounds i true)) a w)
    (hend : ∀ listed L ρ a w, CInv C ops ds s 0 listed L ρ a w → (∀ i, i < ops.length → isL listed i) → Q .normal a w) : JD C ops ds Q s := by
  intro fuel
  induction fuel with
  | zero =>
    intro listed L ρ a w hc
    have hall : ∀ i, i < ops.length → isL listed i := all_listed hc.sz (by have := hc.fu; omega)
    refine ⟨?_, hend listed L ρ a w hc hall⟩
    cases hr : Region.ready .any ⟨ops⟩ listed with
    | nil => rfl
    | cons i rr =>
      obtain ⟨o, ho, hn, _⟩ := ready_mem hc.sz (show i ∈ Region.ready .any ⟨ops⟩ listed by rw [hr]; simp)
      exact absurd (hall i (List.getElem?_eq_some_iff.1 ho).1) hn
  | succ fuel ih =>
    intro listed L ρ a w hc
    obtain ⟨i0, h1, h2⟩ := not_all hc.sz hc.fu
    refine ⟨fun h => absurd h (ready_some hc.sz hlt i0 h1 h2), fun i hi => ?_⟩
    by_cases hb : bit s.dn i
    · exact hc.step hdep hops ha.asu (fun p hp => (ha.as1 p hp).2) hi hb (fun L ρ a' w' hc' => ih _ L ρ a' w' hc')
    · exact hx fuel listed L ρ a w hc i hi hb
end
end Go.Kn
