/-
  The engine is right: regions whose order is open (5): the others, the whole. Conditions: none.
-/
import Derived.Test.YtadmmpbojefdeaaGreatKn23
namespace Go.Kn
open Go
variable {R : Type} {r : R}

section
variable {P : Program} {B : Tb} {ops : List Oper}

theorem light_war {d : DO} (h : isLight B d = true) : d.war = false := by
  unfold isLight at h
  split at h
  · assumption
  · assumption
  · cases h

theorem passK_ok (hT : TyOk P B) (hdep : DepOk ops) (hlt : LtOk ops) : ∀ {l pre : List DO} {s : DSt} {κ : List DO → DSt → Option R}, passK B ops l s κ = some r → AInv ops s (pre ++ l) →
    ∃ l' s', κ l' s' = some r ∧ AInv ops s' (pre ++ l') ∧ ∀ C ds fuel listed L ρ a w, C.P = P → CInv C ops ds s fuel listed L ρ a w → CInv C ops ds s' fuel listed L ρ a w
  | [], pre, s, κ, hh, ha => ⟨[], s, hh, ha, fun _ _ _ _ _ _ _ _ _ h => h⟩
  | d :: l, pre, s, κ, hh, ha => by
    simp only [passK] at hh
    cases hb : (isLight B d && subMask d.on s.dn) with
    | true =>
      rw [hb] at hh
      simp only [Bool.and_eq_true] at hb
      obtain ⟨s1, h1, h2, h3⟩ := lightK_ok hT hdep hlt (show lightK B ops d s (fun s' => passK B ops l s' κ) = some r from hh) ha hb.2 (light_war hb.1)
      obtain ⟨l', s', h4, h5, h6⟩ := passK_ok hT hdep hlt h1 h2
      exact ⟨l', s', h4, h5, fun C ds fuel listed L ρ a w hC hc => h6 C ds fuel listed L ρ a w hC (h3 C ds fuel listed L ρ a w hC hc)⟩
    | false =>
      rw [hb] at hh
      obtain ⟨l', s', h4, h5, h6⟩ := passK_ok (pre := pre ++ [d]) hT hdep hlt (show passK B ops l s (fun l' s' => κ (d :: l') s') = some r from hh) (by simpa using ha)
      exact ⟨d :: l', s', h4, by simpa using h5, h6⟩

theorem takeH_some : ∀ {l : List DO} {κ : DO → List DO → Option R}, takeH B l κ = some r → ∃ d l', κ d l' = some r ∧ l.Perm (d :: l') ∧ isLight B d = false
  | [], κ, hh => by simp [takeH] at hh
  | d :: l, κ, hh => by
    simp only [takeH] at hh
    cases hb : isLight B d with
    | true =>
      rw [hb] at hh
      obtain ⟨d', l', h1, h2, h3⟩ := takeH_some (show takeH B l _ = some r from hh)
      exact ⟨d', d :: l', h1, (h2.cons d).trans (List.Perm.swap d' d l'), h3⟩
    | false => rw [hb] at hh; exact ⟨d, l, hh, .refl _, hb⟩

theorem clearE_some : ∀ {l : List Oper} {e : En} {κ : En → Option R}, clearE l e κ = some r → ∃ e', κ e' = some r ∧ ∀ t v, e'.get t = some v → e.get t = some v ∧ ∀ o ∈ l, o.dst ≠ some t
  | [], e, κ, hh => ⟨e, hh, fun t v h => ⟨h, by simp⟩⟩
  | o :: l, e, κ, hh => by
    simp only [clearE] at hh
    split at hh
    · rename_i d hd
      obtain ⟨e1, h1, h2⟩ := Tr.delK_some hh
      obtain ⟨e', h3, h4⟩ := clearE_some h1
      refine ⟨e', h3, fun t v h => ?_⟩
      obtain ⟨h5, h6⟩ := h4 t v h
      rw [h2] at h5
      split at h5
      · cases h5
      · rename_i hne
        refine ⟨h5, fun o' ho' => ?_⟩
        simp only [List.mem_cons] at ho'
        rcases ho' with rfl | ho'
        · rw [hd]; exact fun e => hne (Option.some.inj e).symm
        · exact h6 o' ho'
    · rename_i hd
      obtain ⟨e', h3, h4⟩ := clearE_some hh
      refine ⟨e', h3, fun t v h => ⟨(h4 t v h).1, fun o' ho' => ?_⟩⟩
      simp only [List.mem_cons] at ho'
      rcases ho' with rfl | ho'
      · rw [hd]; simp
      · exact (h4 t v h).2 o' ho'

theorem recheck_some (hT : TyOk P B) {anc : Nat} {e : En} {h : Hp} {as : List (Nat × Nat)} : ∀ {l : List (DO × V)} {κ : Option R}, recheck B anc e h as l κ = some r → κ = some r ∧ ∀ p ∈ l, ¬ bit anc p.1.i → QF P e (Hless h.get as (bit p.1.anc)) p.1.o.op p.2
  | [], κ, hh => ⟨hh, by simp⟩
  | (d, v) :: l, κ, hh => by
    simp only [recheck] at hh
    cases hb : inMask anc d.i with
    | true =>
      rw [hb] at hh
      obtain ⟨h1, h2⟩ := recheck_some hT (show recheck B anc e h as l κ = some r from hh)
      refine ⟨h1, fun p hp hn => ?_⟩
      simp only [List.mem_cons] at hp
      rcases hp with rfl | hp
      · exact absurd hb hn
      · exact h2 p hp hn
    | false =>
      rw [hb] at hh
      obtain ⟨h0, g1, g2⟩ := without_some (show without d.anc as h _ = some r from hh)
      obtain ⟨u, g3, g4⟩ := opQ_sound hT g1
      obtain ⟨g5, g6⟩ := cond_some g3
      have := sameV_eq g5; subst this
      obtain ⟨h1, h2⟩ := recheck_some hT g6
      refine ⟨h1, fun p hp hn => ?_⟩
      simp only [List.mem_cons] at hp
      rcases hp with rfl | hp
      · have hh0 : h0.get = Hless h.get as (bit d.anc) := opt_ext g2
        show QF P e (Hless h.get as (bit d.anc)) d.o.op u
        rw [← hh0]; exact g4
      · exact h2 p hp hn

theorem others_ok {i dn : Nat} : ∀ {l : List DO}, others B i dn l = true → ∀ d ∈ l, (isLight B d = true ∧ subMask d.on dn = false) ∨ (isLight B d = false ∧ bit d.anc i)
  | [], _ => by simp
  | d :: l, h => by
    simp only [others, Bool.and_eq_true] at h
    intro d' hd'
    simp only [List.mem_cons] at hd'
    rcases hd' with rfl | hd'
    · have h1 := h.1
      cases hb : isLight B d' with
      | true => rw [hb] at h1; exact .inl ⟨rfl, by simpa using h1⟩
      | false => rw [hb] at h1; exact .inr ⟨rfl, h1⟩
    · exact others_ok h.2 d' hd'

/-- A call, as an operation. -/
theorem callK_ok (hT : TyOk P B) (hF : FnOk P B) {rc : Rn R} (hrun : RunOk P rc r) {c : Call} {e : En} {h : Hp} {nk : Nat} {kp kr : V → Hp → Nat → Option R} (hh : callK B rc c e h nk kp kr = some r)
    {o : Oper} (hop : o.op = .call c) {a : Act} {w : World} {next : Act → World → Prop} {Q : Exit → Act → World → Prop} (hq : NoOut Q) {L : Nat → Prop} {ρ : Nat → Loc} {fr : Nat → Option Obj} (hod : ∀ x ∈ o.op.operands.toList, Od L ρ e a.eval x) (hs : Sat L ρ h.get fr w.heap) (hbd : ∀ k, L k → k < nk)
    (hp : ∀ v h' nk', kp v h' nk' = some r → ∀ L' ρ' w' x, Ext L ρ L' ρ' → (∀ k, L' k → k < nk' ∧ (L k ∨ nk ≤ k)) → nk ≤ nk' → Sat L' ρ' h'.get fr w'.heap → Frm w w' → rel L' ρ' v x → Q (.panic [{ v := x, recovered := false }]) a w')
    (hr : ∀ v h' nk', kr v h' nk' = some r → ∀ L' ρ' w' x, Ext L ρ L' ρ' → (∀ k, L' k → k < nk' ∧ (L k ∨ nk ≤ k)) → nk ≤ nk' → Sat L' ρ' h'.get fr w'.heap → Frm w w' → rel L' ρ' v x → next (a.put o.dst x) w') :
    o.wp P a w next Q := by
  obtain ⟨g, vs, n1, n2⟩ := calleeK_some hF (show calleeK B e c _ = some r from hh)
  obtain ⟨df, xs, n3, n4, _, n5⟩ := n2 L ρ a.eval o.type (fun x hx => hod x (by rw [hop]; exact hx))
  obtain ⟨n6, F, f1, f2, f3⟩ := doCall_ok hT hF hrun n1 hs hbd n4 (Rt := fun
      | .returned v, w'' => next (a.put o.dst v) w''
      | .panicked chain, w'' => Q (.panic chain) a w''
      | .outgrown, _ => LetsOut Q) (fun w h => hq.letsOut h) hp (fun us h' nk' hk L' ρ' w' x e1 e2 e3 e4 e5 e6 => hr _ _ _ hk L' ρ' w' x e1 e2 e3 e4 e5 e6)
  unfold Oper.wp
  have hrun : (execOp a.eval o).run P w = .ok (.enter g xs.toArray) w := by
    simp only [execOp, hop, Sem.run_bind, n3, Result.andThen_ok]
    exact n5 F w f1 f2 f3
  rw [hrun, Oper.upon_enter]
  exact n6

/-- One that is no light one is done, then all goes on. -/
theorem heavy_ok (hT : TyOk P B) (hF : FnOk P B) (hdep : DepOk ops) (hlt : LtOk ops) {rc : Rn R} (hrun : RunOk P rc r) {C : Ctx} (hC : C.P = P) (hops : ops.all (operOk C.nt) = true) {Q : Exit → Act → World → Prop} (hq : NoOut Q) {ds : Ds} {kp : V → En → Hp → Nat → Option R}
    (hkp : ∀ v e' h' nk', kp v e' h' nk' = some r → ∀ L' ρ' a' w', St C L' ρ' e' ds h' nk' a' w' → ∀ x, rel L' ρ' v x → Q (.panic [{ v := x, recovered := false }]) a' w')
    {s : DSt} {d : DO} {l : List DO} {rc' : DSt → Option R}
    (hh : (without d.anc s.as s.h fun h0 => heavyK B ops (callK B rc) kp d s.e h0 s.nk fun v h1 nk1 => again d.anc s.h s.as h1 fun h2 => putT s.e d.o.dst v fun e' =>
            recheck B d.anc e' h2 s.as s.qs (rc' ⟨Nat.lor s.dn (Nat.shiftLeft 1 d.i), e', h2, nk1, s.qs, s.as⟩)) = some r)
    (ha : AInv ops s (d :: l)) (hon : subMask d.on s.dn = true) (hlight : isLight B d = false)
    (hrc' : ∀ s', rc' s' = some r → AInv ops s' l → JD C ops ds Q s')
    {fuel : Nat} {listed : Array Bool} {L : Nat → Prop} {ρ : Nat → Loc} {a : Act} {w : World} (hc : CInv C ops ds s (fuel + 1) listed L ρ a w) (hr : d.i ∈ Region.ready .any ⟨ops⟩ listed) :
    wpOp C.P ⟨ops⟩ Q d.i (wpAny C.P .any ⟨ops⟩ Q fuel (listed.setIfInBounds d.i true)) a w := by
  subst hC
  obtain ⟨o, ho, hn, he⟩ := ready_mem hc.sz hr
  obtain ⟨hdk, hdn⟩ := ha.ok d (by simp)
  have hdo : d.o = o := by have := hdk.at_; rw [ho] at this; exact (Option.some.inj this).symm
  subst hdo
  have hok : operOk C.nt d.o = true := by
    rw [List.all_eq_true] at hops
    exact hops _ (List.mem_of_getElem? ho)
  have ho' : (⟨ops⟩ : Array Oper)[d.i]? = some d.o := by simpa using ho
  have hbit : ∀ j, bit (Nat.lor s.dn (Nat.shiftLeft 1 d.i)) j ↔ bit s.dn j ∨ j = d.i := fun j => by rw [bit_or, bit_one]
  have honm : ∀ j ∈ edgeOn d.o, bit s.dn j := fun j hj => (subMask_iff _ _).1 hon j ((hdk.on j).2 hj)
  have hanc : ∀ j, bit d.anc j → isL listed j := hdk.anc _ hc.cl he
  have hoth : ∀ i o t, bit s.dn i → ¬ isL listed i → ops[i]? = some o → d.o.dst = some t → t ∉ slotsOf ops o ∧ o.dst ≠ some t := by
    intro i o t hi hni ho ht
    refine ⟨fun hm => (hdep.looks i d.i o d.o t ho hdk.at_ ht hm).elim (fun h => hdn (ha.cls i o hi ho d.i h.2)) (fun h => hni (he i h.2)), hdep.dst i d.i o d.o t ho hdk.at_ ht (fun e => hdn (e ▸ hi))⟩
  have hgd := hc.gd hdep ho he
  have hod := hc.od hdep ho he
  obtain ⟨h0, g1, g2⟩ := without_some hh
  have hh0 : h0.get = Hless s.h.get s.as (bit d.anc) := opt_ext g2
  -- the objects that stand beside
  let F : Nat → Prop := fun t => ∃ p ∈ s.as, p.2 = t ∧ ¬ bit d.anc p.1
  have hsp : Sat L ρ h0.get (frOf ρ (Hless s.h.get s.as (isL listed)) F C.fr w.heap) w.heap := by
    rw [hh0]
    refine hc.sat.split F fun t o ht => ?_
    rw [Hless_some] at ht
    refine ⟨Hless_some.2 ⟨ht.1, fun p hp e => hanc _ (ht.2 p hp e)⟩, ?_⟩
    rintro ⟨p, hp, e, hnp⟩
    exact hnp (ht.2 p hp e)
  -- what comes behind it
  have cont : ∀ {v : V} {h1 : Hp} {nk1 : Nat}, (again d.anc s.h s.as h1 fun h2 => putT s.e d.o.dst v fun e' => recheck B d.anc e' h2 s.as s.qs (rc' ⟨Nat.lor s.dn (Nat.shiftLeft 1 d.i), e', h2, nk1, s.qs, s.as⟩)) = some r →
      s.nk ≤ nk1 → ∀ {L' ρ' w' x}, Ext L ρ L' ρ' → (∀ k, L' k → k < nk1 ∧ (L k ∨ s.nk ≤ k)) → Sat L' ρ' h1.get (frOf ρ (Hless s.h.get s.as (isL listed)) F C.fr w.heap) w'.heap → Frm w w' → rel L' ρ' v x →
      wpAny C.P .any ⟨ops⟩ Q fuel (listed.setIfInBounds d.i true) (a.put d.o.dst x) w' := by
    intro v h1 nk1 hh1 hnk L' ρ' w' x hx hbd hsat hfr hv
    obtain ⟨h2, k1, k2, k3⟩ := again_some hh1
    obtain ⟨e', k4, k5⟩ := putT_get k1
    obtain ⟨k6, k7⟩ := recheck_some hT k4
    have ha' : AInv ops ⟨Nat.lor s.dn (Nat.shiftLeft 1 d.i), e', h2, nk1, s.qs, s.as⟩ l := by
      have := AInv.next (pre := []) (s' := ⟨Nat.lor s.dn (Nat.shiftLeft 1 d.i), e', h2, nk1, s.qs, s.as⟩) ha honm hbit hnk (.inl rfl)
      simpa using this
    refine hrc' _ k6 ha' fuel _ L' ρ' _ w' (hc.put ho hn he hok hx hfr (fun j hj => (hbit j).2 (.inl hj)) ((hbit _).2 (.inr rfl)) ?_ ?_ ?_ (fun j oj h1 h2 h3 => ((hbit j).1 h1).imp (fun h => hc.war j oj h h2 h3) id) (fun k hk => (hbd k hk).1) ?_ hnk (fun p hp => hp) ?_)
    · intro j hj hnj hne
      have hj : bit s.dn j := ((hbit j).1 hj).resolve_right hne
      obtain ⟨d0, rfl, h1, h2'⟩ := hc.pk j hj hnj
      refine ⟨d0, rfl, h1, ?_⟩
      have hag : Agr (slotsOf ops d0.o) s.e e' := fun t ht => by
        rw [k5 t, if_neg (fun e => (hoth _ _ t hj hnj h1.at_ e).1 ht)]
      refine h2'.keep (s' := ⟨Nat.lor s.dn (Nat.shiftLeft 1 d.i), e', h2, nk1, s.qs, s.as⟩) hag (fun t ht => ?_) (fun p hp => hp) (fun p hp => hp) (fun p hp => .inl hp) (fun u hu hq => ?_) (fun k o hm ho => ?_)
      · show e'.get t = _
        rw [k5 t, if_neg (fun e => (hoth _ _ t hj hnj h1.at_ e).2 ht)]
      · have := k7 _ hu (fun hb => hnj (hanc _ hb))
        have hag' : Agr (slotsOf ops d0.o) e' s.e := fun t ht => (hag t ht).symm
        exact hag'.qf this
      · obtain ⟨q1, o', q2, q3⟩ := k2 _ hm (fun hb => hnj (hanc _ hb))
        show h2.get k = some o
        rw [ho] at q2; cases q2
        exact q3
    · intro t u hu
      have hu : e'.get t = some u := hu
      rw [k5 t] at hu
      split at hu
      · rename_i hd; cases hu; exact .inl ⟨hd, hv⟩
      · rename_i hd; exact .inr ⟨hd, hu⟩
    · refine hc.sat.join F hx hsat fun t o ht => ?_
      rw [Hless_some] at ht
      obtain ⟨ht1, ht2⟩ := ht
      by_cases hf : F t
      · refine .inr ⟨hf, ?_⟩
        obtain ⟨p, hp, rfl, hnp⟩ := hf
        obtain ⟨q1, o', q2, q3⟩ := k2 p hp hnp
        have : o' = o := by rw [q3] at ht1; exact Option.some.inj ht1
        subst this
        refine Hless_some.2 ⟨q2, fun p' hp' e => (ht2 p' hp' e).resolve_right fun e' => ?_⟩
        exact hdn (e' ▸ (ha.as1 p' hp').1)
      · left
        have : h2.get t = h1.get t := k3 t (fun p hp hnp e => hf ⟨p, hp, e, hnp⟩)
        rw [← this]; exact ht1
    · intro k hk
      rcases (hbd k hk).2 with h | h
      · exact .inl h
      · exact .inr (Nat.le_trans hc.nkb h)
    · intro p hp hnp _ hl
      rcases (hbd _ hl).2 with h | h
      · exact hc.pend p hp hnp h
      · have := (ha.as1 p hp).2; omega
  unfold heavyK at g1
  obtain ⟨b, m1, m2⟩ := guardK_some g1
  have hw := m2 L ρ a.tmps d.o hgd rfl
  unfold wpOp
  rw [ho']
  show if _ then _ else _
  cases b with
  | false =>
    rw [if_neg (by rw [hw]; simp)]
    simp only at m1
    exact cont m1 (Nat.le_refl _) (Ext.refl _ _) (fun k hk => ⟨hc.bd k hk, .inl hk⟩) hsp (Frm.refl _) (by simp [rel, rels, undef])
  | true =>
    rw [if_pos hw]
    simp only at m1
    refine .inl ?_
    split at m1
    · obtain ⟨v, n1, n2⟩ := opQ_sound hT m1
      obtain ⟨y, q1, q2⟩ := n2 L ρ _ a.eval w hod hsp
      unfold Oper.wp
      rw [q2 d.o rfl]
      exact cont n1 (Nat.le_refl _) (Ext.refl _ _) (fun k hk => ⟨hc.bd k hk, .inl hk⟩) hsp (Frm.refl _) q1
    · obtain ⟨v, h1, nk1, n1, n2, n3⟩ := opH_sound hT m1
      obtain ⟨n, y, w', L', ρ', q1, q2, q3, q4, q5, q6, q7⟩ := n3 L ρ _ a.eval w hod hsp hc.bd
      unfold Oper.wp
      rw [q1 d.o rfl]
      rcases q2 with rfl | ⟨rfl, rfl⟩
      · exact cont n1 n2 q4 q5 q7 q3 q6
      · exact cont n1 n2 q4 q5 q7 q3 q6
    · split at m1
      · rename_i c hop
        refine callK_ok hT hF hrun m1 hop hq hod hsp hc.bd (fun v h' nk' hk L' ρ' w' x e1 e2 e3 e4 e5 e6 => ?_) (fun v h' nk' hk L' ρ' w' x e1 e2 e3 e4 e5 e6 => cont hk e3 e1 e2 e4 e5 e6)
        obtain ⟨e', t1, t2⟩ := clearE_some hk
        refine hkp v e' h' nk' t1 L' ρ' a w' ⟨hc.size, fun t u hu => ?_, hc.ds.up e1, ?_, fun k hk => (e2 k hk).1, ?_, Nat.le_trans hc.nkb e3, hc.frm.trans e5, hc.ext.trans e1⟩ x e6
        · obtain ⟨u1, u2⟩ := t2 t u hu
          obtain ⟨y, y1, y2⟩ := hc.env t u u1 (fun j oj hoj hdj => absurd hdj (u2 oj (List.mem_of_getElem? hoj)))
          exact ⟨y, y1, rel_up e1 y2⟩
        · exact hc.sat.join F e1 e4 (fun t o ht => .inl ht)
        · intro k hk
          rcases (e2 k hk).2 with h | h
          · exact hc.new k h
          · exact .inr (Nat.le_trans hc.nkb h)
      · cases m1
    · cases m1
end
end Go.Kn
