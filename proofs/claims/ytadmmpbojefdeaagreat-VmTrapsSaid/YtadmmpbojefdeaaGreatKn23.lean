/-
  The engine is right: regions whose order is open (4): light operations. Conditions: none.
-/
import Derived.Test.YtadmmpbojefdeaaGreatKn22
namespace Go.Kn
open Go
variable {R : Type} {r : R}

theorem putT_get {e : En} {d : Option Nat} {v : V} {κ : En → Option R} (hh : putT e d v κ = some r) : ∃ e', κ e' = some r ∧ ∀ t, e'.get t = if d = some t then some v else e.get t := by
  unfold putT at hh
  split at hh
  · rename_i d
    obtain ⟨e', h1, h2⟩ := Tr.setK_some _ hh
    refine ⟨e', h1, fun t => ?_⟩
    rw [h2 t]
    by_cases h : t = d
    · subst h; simp
    · rw [if_neg h, if_neg (fun e => h (Option.some.inj e).symm)]
  · exact ⟨e, hh, fun t => by simp⟩

section
variable {P : Program} {B : Tb} {ops : List Oper} {s s' : DSt}

theorem AInv.next {pre l : List DO} {d : DO} (ha : AInv ops s (pre ++ d :: l)) (hon : ∀ j ∈ edgeOn d.o, bit s.dn j) (hdn : ∀ j, bit s'.dn j ↔ bit s.dn j ∨ j = d.i) (hnk : s.nk ≤ s'.nk)
    (has : s'.as = s.as ∨ (s'.as = (d.i, s.nk) :: s.as ∧ s.nk < s'.nk)) : AInv ops s' (pre ++ l) := by
  have hd := ha.ok d (by simp)
  have hnd := ha.nd
  simp only [List.map_append, List.map_cons] at hnd
  have hnd2 : ((pre ++ l).map (·.i)).Nodup ∧ d.i ∉ (pre ++ l).map (·.i) := by
    have := (List.perm_middle (a := d.i) (l₁ := pre.map (·.i)) (l₂ := l.map (·.i))).nodup_iff.1 hnd
    rw [List.nodup_cons] at this
    simp only [List.map_append]
    exact ⟨this.2, this.1⟩
  refine ⟨fun d' hd' => ?_, hnd2.1, fun i hi => ?_, ?_, ?_, ?_⟩
  · have hm : d' ∈ pre ++ d :: l := by
      simp only [List.mem_append, List.mem_cons] at hd' ⊢
      rcases hd' with h | h
      · exact .inl h
      · exact .inr (.inr h)
    refine ⟨(ha.ok d' hm).1, fun hb => ?_⟩
    rcases (hdn _).1 hb with h | h
    · exact (ha.ok d' hm).2 h
    · exact hnd2.2 (by rw [← h]; exact List.mem_map_of_mem hd')
  · rcases ha.cov i hi with h | ⟨d', h1, h2⟩
    · exact .inl ((hdn i).2 (.inl h))
    · by_cases e : d' = d
      · subst e; exact .inl ((hdn i).2 (.inr h2.symm))
      · refine .inr ⟨d', ?_, h2⟩
        simp only [List.mem_append, List.mem_cons] at h1 ⊢
        rcases h1 with h | h | h
        · exact .inl h
        · exact absurd h e
        · exact .inr h
  · intro i o hi ho j hj
    rcases (hdn i).1 hi with h | h
    · exact (hdn j).2 (.inl (ha.cls i o h ho j hj))
    · subst h
      have := hd.1.at_
      rw [ho] at this; cases this
      exact (hdn j).2 (.inl (hon j hj))
  · intro p hp
    rcases has with h | ⟨h, h'⟩
    · rw [h] at hp
      exact ⟨(hdn _).2 (.inl (ha.as1 p hp).1), Nat.lt_of_lt_of_le (ha.as1 p hp).2 hnk⟩
    · rw [h] at hp
      simp only [List.mem_cons] at hp
      rcases hp with rfl | hp
      · exact ⟨(hdn _).2 (.inr rfl), h'⟩
      · exact ⟨(hdn _).2 (.inl (ha.as1 p hp).1), Nat.lt_of_lt_of_le (ha.as1 p hp).2 hnk⟩
  · rcases has with h | ⟨h, h'⟩
    · rw [h]; exact ha.asu
    · rw [h]
      have hno : ∀ p ∈ s.as, p.1 ≠ d.i ∧ p.2 ≠ s.nk := fun p hp => ⟨fun e => hd.2 (e ▸ (ha.as1 p hp).1), fun e => by have := (ha.as1 p hp).2; omega⟩
      intro p hp q hq he
      simp only [List.mem_cons] at hp hq
      rcases hp with rfl | hp <;> rcases hq with rfl | hq
      · rfl
      · rcases he with e | e
        · exact absurd e.symm (hno q hq).1
        · exact absurd e.symm (hno q hq).2
      · rcases he with e | e
        · exact absurd e (hno p hp).1
        · exact absurd e (hno p hp).2
      · exact ha.asu p hp q hq he

/-- A light operation is reckoned. -/
theorem PK.keep {d0 : DO} (hp : PK P ops s d0) (hag : Agr (slotsOf ops d0.o) s.e s'.e) (hds : ∀ t, d0.o.dst = some t → s'.e.get t = s.e.get t) (hqs : ∀ p ∈ s.qs, p ∈ s'.qs) (has : ∀ p ∈ s.as, p ∈ s'.as) (has2 : ∀ p ∈ s'.as, p ∈ s.as ∨ p.1 ≠ d0.i)
    (hq : ∀ v, (d0, v) ∈ s.qs → QF P s.e (Hless s.h.get s.as (bit d0.anc)) d0.o.op v → QF P s.e (Hless s'.h.get s'.as (bit d0.anc)) d0.o.op v) (hh : ∀ k o, (d0.i, k) ∈ s.as → s.h.get k = some o → s'.h.get k = some o) : PK P ops s' d0 := by
  cases hp with
  | off hg hd hn => exact .off (hag.gk hg) (fun t ht => by rw [hds t ht]; exact hd t ht) (fun p hp => (has2 p hp).elim (hn p) id)
  | q v hg hd hm hqq hn => exact .q v (hag.gk hg) (fun t ht => by rw [hds t ht]; exact hd t ht) (hqs _ hm) (hag.qf (hq v hm hqq)) (fun p hp => (has2 p hp).elim (hn p) id)
  | a v k o hg hd hm ho hak => exact .a v k o (hag.gk hg) (fun t ht => by rw [hds t ht]; exact hd t ht) (has _ hm) (hh k o hm ho) (hag.ak hak)

theorem lightK_ok (hT : TyOk P B) (hdep : DepOk ops) (hlt0 : LtOk ops) {pre l : List DO} {d : DO} {κ : DSt → Option R} (hh : lightK B ops d s κ = some r) (ha : AInv ops s (pre ++ d :: l)) (hsm : subMask d.on s.dn = true) (hwar : d.war = false) :
    ∃ s', κ s' = some r ∧ AInv ops s' (pre ++ l) ∧ ∀ C ds fuel listed L ρ a w, C.P = P → CInv C ops ds s fuel listed L ρ a w → CInv C ops ds s' fuel listed L ρ a w := by
  obtain ⟨hdk, hdn⟩ := ha.ok d (by simp)
  have hon : ∀ j ∈ edgeOn d.o, bit s.dn j := fun j hj => (subMask_iff _ _).1 hsm j ((hdk.on j).2 hj)
  have hanc : ∀ j, bit d.anc j → bit s.dn j := hdk.anc _ ha.cls hon
  have hnw := hdk.noWar hdep hlt0 hwar
  have hlk : ∀ i o t, ops[i]? = some o → d.o.dst = some t → t ∈ slotsOf ops o → i ≠ d.i ∧ d.i ∈ edgeOn o := fun i o t ho ht hm => Classical.byContradiction fun hx => hnw ⟨i, o, t, ho, ht, hm, hx⟩
  have hself : ∀ t, d.o.dst = some t → t ∉ slotsOf ops d.o := fun t ht hm => (hlk d.i d.o t hdk.at_ ht hm).1 rfl
  have hoth : ∀ i o t, bit s.dn i → ops[i]? = some o → d.o.dst = some t → t ∉ slotsOf ops o ∧ o.dst ≠ some t := by
    intro i o t hi ho ht
    refine ⟨fun hm => hdn (ha.cls i o hi ho d.i (hlk i o t ho ht hm).2), hdep.dst i d.i o d.o t ho hdk.at_ ht (fun e => hdn (e ▸ hi))⟩
  have hbit : ∀ j, bit (Nat.lor s.dn (Nat.shiftLeft 1 d.i)) j ↔ bit s.dn j ∨ j = d.i := fun j => by rw [bit_or, bit_one]
  -- all that is alike
  have main : ∀ {s' : DSt} {v : V}, (∀ t, s'.e.get t = if d.o.dst = some t then some v else s.e.get t) → s'.dn = Nat.lor s.dn (Nat.shiftLeft 1 d.i) → s.nk ≤ s'.nk → (∀ p ∈ s.qs, p ∈ s'.qs) → (s'.as = s.as ∨ (s'.as = (d.i, s.nk) :: s.as ∧ s.nk < s'.nk)) →
      (∀ k o, k < s.nk → (s'.h.get k = some o ↔ s.h.get k = some o)) → (∀ k o, (s'.as = s.as ∨ k ≠ s.nk) → s'.h.get k = some o → s.h.get k = some o) →
      (Agr (slotsOf ops d.o) s.e s'.e → (∀ t, d.o.dst = some t → s'.e.get t = some v) → (∀ p ∈ s.as, p.1 ≠ d.i) → PK P ops s' d) →
      AInv ops s' (pre ++ l) ∧ ∀ C ds fuel listed L ρ a w, C.P = P → CInv C ops ds s fuel listed L ρ a w → CInv C ops ds s' fuel listed L ρ a w := by
    intro s' v he hd hnk hqs has hh1 hh0 hpk
    refine ⟨ha.next hon (fun j => by rw [hd, hbit]) hnk has, fun C ds fuel listed L ρ a w hC hc => ?_⟩
    have hni : ¬ isL listed d.i := fun h => hdn (hc.sub _ h)
    have hsub : ∀ p ∈ s.as, p ∈ s'.as := fun p hp => by rcases has with h | ⟨h, _⟩ <;> rw [h] <;> simp [hp]
    have hsub2 : ∀ p ∈ s'.as, p ∈ s.as ∨ p = (d.i, s.nk) := fun p hp => by
      rcases has with h | ⟨h, _⟩ <;> rw [h] at hp
      · exact .inl hp
      · simp only [List.mem_cons] at hp; exact hp.symm
    have hlt : ∀ k o, s.h.get k = some o → k < s.nk := fun k o hk => hc.hb (fun p hp => (ha.as1 p hp).2) hk
    refine ⟨hc.sz, hc.fu, hc.cl, fun i hi => by rw [hd]; exact (hbit i).2 (.inl (hc.sub i hi)), ?_, hc.size, ?_, fun j oj hb hoj hw => ?_, hc.ds, ?_, fun k hk => Nat.lt_of_lt_of_le (hc.bd k hk) hnk, ?_, ?_, hc.new, Nat.le_trans hc.nkb hnk, hc.frm, hc.ext⟩
    · intro i hi hn
      rw [hd] at hi
      rcases (hbit i).1 hi with h | rfl
      · obtain ⟨d0, rfl, h1, h2⟩ := hc.pk i h hn
        refine ⟨d0, rfl, h1, ?_⟩
        rw [hC] at h2 ⊢
        refine h2.keep (fun t ht => ?_) (fun t ht => ?_) hqs hsub (fun p hp => ?_) (fun u hu hq => ?_) (fun k o hm ho => ?_)
        · rw [he t, if_neg (fun e => (hoth _ _ t h h1.at_ e).1 ht)]
        · rw [he t, if_neg (fun e => (hoth _ _ t h h1.at_ e).2 ht)]
        · rcases hsub2 p hp with h | rfl
          · exact .inl h
          · exact .inr (fun e => hdn (by rw [show d.i = d0.i from e]; exact h))
        · refine hq.less fun t o ht => ?_
          rw [Hless_some] at ht ⊢
          have htl := hlt t o ht.1
          refine ⟨(hh1 t o htl).2 ht.1, fun p hp e => ?_⟩
          rcases hsub2 p hp with h | rfl
          · exact ht.2 p h e
          · exact absurd e (by show s.nk ≠ t; omega)
        · exact (hh1 k o (ha.as1 _ hm).2).2 ho
      · refine ⟨d, rfl, hdk, ?_⟩
        rw [hC]
        refine hpk (fun t ht => ?_) (fun t ht => by rw [he t, if_pos ht]) (fun p hp e => hdn (e ▸ (ha.as1 p hp).1))
        rw [he t, if_neg (fun e => hself t e ht)]
    · intro t u hu hall
      rw [he t, if_neg (fun e => ?_)] at hu
      · exact hc.env t u hu (fun j oj hoj hdj => (hall j oj hoj hdj).imp id (fun h hb => h (by rw [hd]; exact (hbit j).2 (.inl hb))))
      · rcases hall d.i d.o hdk.at_ e with h | h
        · exact hni h
        · exact h (by rw [hd]; exact (hbit _).2 (.inr rfl))
    · rw [hd] at hb
      rcases (hbit j).1 hb with h | rfl
      · exact hc.war j oj h hoj hw
      · rw [hdk.at_] at hoj; cases hoj
        exact absurd hw hnw
    · refine hc.sat.less fun t o ht => ?_
      rw [Hless_some] at ht ⊢
      rcases has with h | ⟨h, h'⟩
      · refine ⟨hh0 t o (.inl h) ht.1, fun p hp e => ht.2 p (hsub p hp) e⟩
      · by_cases hn : t = s.nk
        · have := ht.2 (d.i, s.nk) (by rw [h]; simp) hn.symm
          exact absurd this hni
        · exact ⟨hh0 t o (.inr hn) ht.1, fun p hp e => ht.2 p (hsub p hp) e⟩
    · intro p hp hn
      rcases hsub2 p hp with h | rfl
      · exact hc.pend p h hn
      · intro hl
        have := hc.bd _ hl
        exact absurd this (by show ¬ s.nk < s.nk; omega)
    · intro p hp
      rcases hsub2 p hp with h | rfl
      · exact hc.asn p h
      · exact hc.nkb
  unfold lightK at hh
  obtain ⟨b, h1, h2⟩ := guardK_some hh
  have hgk : GK ops s.e d.o b := fun L ρ tmps hg => h2 L ρ tmps d.o hg rfl
  cases b with
  | false =>
    simp only at h1
    obtain ⟨e', h3, h4⟩ := putT_get h1
    refine ⟨_, h3, main h4 rfl (Nat.le_refl _) (fun _ h => h) (.inl rfl) (fun k o _ => Iff.rfl) (fun k o _ h => h) (fun hag hd hn => .off (hag.gk hgk) hd hn)⟩
  | true =>
    simp only at h1
    split at h1
    · obtain ⟨h0, g1, g2⟩ := without_some h1
      obtain ⟨v, g3, g4⟩ := opQ_sound hT g1
      obtain ⟨e', g5, g6⟩ := putT_get g3
      have hh0 : h0.get = Hless s.h.get s.as (bit d.anc) := opt_ext g2
      have hq : QF P s.e (Hless s.h.get s.as (bit d.anc)) d.o.op v := by rw [← hh0]; exact g4
      refine ⟨_, g5, main g6 rfl (Nat.le_refl _) (fun p hp => by simp [hp]) (.inl rfl) (fun k o _ => Iff.rfl) (fun k o _ h => h) (fun hag hd hn => .q v (hag.gk hgk) hd (by simp) (hag.qf hq) hn)⟩
    · obtain ⟨v, o, g3, g4⟩ := opA_sound hT h1
      obtain ⟨e', g5, g6⟩ := putT_get g3
      obtain ⟨h', g7, g8⟩ := newK_some g5
      refine ⟨_, g7, main g6 rfl (Nat.le_succ _) (fun p hp => hp) (.inr ⟨rfl, Nat.lt_succ_self _⟩) (fun k o hk => ?_) (fun k o e ho => ?_) (fun hag hd hn => .a v s.nk o (hag.gk hgk) hd (by simp) ?_ (hag.ak g4))⟩
      · show h'.get k = some o ↔ _
        rw [g8, updT_other _ _ _ (by omega)]
      · rcases e with e | e
        · exact absurd (congrArg List.length e) (by simp)
        · have ho : h'.get k = some o := ho
          rw [g8, updT_other _ _ _ e] at ho
          exact ho
      · show h'.get s.nk = some o
        rw [g8, updT_same]
    · cases h1
end
end Go.Kn
