/-
  The engine is right: regions whose order is open (6). Conditions: none.
-/
import Derived.Test.YtadmmpbojefdeaaGreatKn24
namespace Go.Kn
open Go
variable {R : Type} {r : R}

section
variable {P : Program} {B : Tb} {ops : List Oper}

theorem drawK_zero {call : Call → En → Hp → Nat → (V → Hp → Nat → Option R) → (V → Hp → Nat → Option R) → Option R} {kp : V → En → Hp → Nat → Option R} {κ : En → Hp → Nat → Option R} {l : List DO} {s : DSt} : drawK B ops call kp κ 0 l s = none := rfl
theorem drawK_succ {call : Call → En → Hp → Nat → (V → Hp → Nat → Option R) → (V → Hp → Nat → Option R) → Option R} {kp : V → En → Hp → Nat → Option R} {κ : En → Hp → Nat → Option R} {n : Nat} {l : List DO} {s : DSt} :
    drawK B ops call kp κ (n + 1) l s = passK B ops l s fun l s => match l with
    | [] => κ s.e s.h s.nk
    | l => takeH B l fun d l' => bif subMask d.on s.dn && others B d.i s.dn l' then
        without d.anc s.as s.h fun h0 => heavyK B ops call kp d s.e h0 s.nk fun v h1 nk1 => again d.anc s.h s.as h1 fun h2 => putT s.e d.o.dst v fun e' =>
            recheck B d.anc e' h2 s.as s.qs (drawK B ops call kp κ n l' ⟨Nat.lor s.dn (Nat.shiftLeft 1 d.i), e', h2, nk1, s.qs, s.as⟩) else none := rfl

theorem drawK_ok (hT : TyOk P B) (hF : FnOk P B) (hdep : DepOk ops) (hlt : LtOk ops) {rc : Rn R} (hrun : RunOk P rc r) {C : Ctx} (hC : C.P = P) (hops : ops.all (operOk C.nt) = true) {Q : Exit → Act → World → Prop} (hq : NoOut Q) {ds : Ds} {kp : V → En → Hp → Nat → Option R} {κ : En → Hp → Nat → Option R}
    (hkp : ∀ v e' h' nk', kp v e' h' nk' = some r → ∀ L' ρ' a' w', St C L' ρ' e' ds h' nk' a' w' → ∀ x, rel L' ρ' v x → Q (.panic [{ v := x, recovered := false }]) a' w')
    (hκ : ∀ e' h' nk', κ e' h' nk' = some r → ∀ L' ρ' a' w', St C L' ρ' e' ds h' nk' a' w' → Q .normal a' w') :
    ∀ {n : Nat} {l : List DO} {s : DSt}, drawK B ops (callK B rc) kp κ n l s = some r → AInv ops s l → JD C ops ds Q s := by
  intro n
  induction n with
  | zero => intro l s hh; rw [drawK_zero] at hh; cases hh
  | succ n ih =>
    intro l s hh ha
    rw [drawK_succ] at hh
    obtain ⟨l', s', h1, ha', h2⟩ := passK_ok (pre := []) hT hdep hlt hh (by simpa using ha)
    simp only [List.nil_append] at ha'
    have main : JD C ops ds Q s' := by
      split at h1
      · refine drain hdep hlt hops ha' (fun fuel listed L ρ a w hc i hi hn => ?_) (fun listed L ρ a w hc hall => ?_)
        · obtain ⟨o, ho, _, _⟩ := ready_mem hc.sz hi
          rcases ha'.cov i (List.getElem?_eq_some_iff.1 ho).1 with h | ⟨d, hd, _⟩
          · exact absurd h hn
          · cases hd
        · refine hκ _ _ _ h1 L ρ a w ⟨hc.size, fun t v hv => hc.env t v hv (fun j oj hoj _ => .inl <| hall j (List.getElem?_eq_some_iff.1 hoj).1), hc.ds, ?_, hc.bd, hc.new, hc.nkb, hc.frm, hc.ext⟩
          refine hc.sat.less fun t o ht => Hless_some.2 ⟨ht, fun p hp _ => ?_⟩
          have hb := (ha'.as1 p hp).1
          refine Classical.byContradiction fun hn => ?_
          obtain ⟨d, e, hd, _⟩ := hc.pk _ hb hn
          have := (List.getElem?_eq_some_iff.1 hd.at_).1
          rw [e] at this
          exact hn (hall _ this)
      · obtain ⟨d, l2, h3, hperm, hnl⟩ := takeH_some h1
        have ha2 := ha'.perm hperm
        obtain ⟨h4, h5⟩ := cond_some h3
        simp only [Bool.and_eq_true] at h4
        have hdn := (ha2.ok d (by simp)).2
        refine drain hdep hlt hops ha2 (fun fuel listed L ρ a w hc i hi hn => ?_) (fun listed L ρ a w hc hall => ?_)
        · obtain ⟨o, ho, hni, he⟩ := ready_mem hc.sz hi
          rcases ha2.cov i (List.getElem?_eq_some_iff.1 ho).1 with h | ⟨d0, hd0, rfl⟩
          · exact absurd h hn
          · simp only [List.mem_cons] at hd0
            rcases hd0 with rfl | hd0
            · exact heavy_ok hT hF hdep hlt hrun hC hops hq hkp h5 ha2 h4.1 hnl (fun s'' hs'' ha'' => ih hs'' ha'') hc hi
            · exfalso
              have hk0 := (ha2.ok d0 (by simp [hd0])).1
              have hdo : d0.o = o := by have := hk0.at_; rw [ho] at this; exact (Option.some.inj this).symm
              subst hdo
              rcases others_ok h4.2 d0 hd0 with ⟨_, g⟩ | ⟨_, g⟩
              · have : subMask d0.on s'.dn = true := (subMask_iff _ _).2 fun j hj => hc.sub j (he j ((hk0.on j).1 hj))
                rw [this] at g; cases g
              · exact hdn (hc.sub _ (hk0.anc _ hc.cl he _ g))
        · exfalso
          have hk := (ha2.ok d (by simp)).1
          exact hdn (hc.sub _ (hall d.i (List.getElem?_eq_some_iff.1 hk.at_).1))
    intro fuel listed L ρ a w hc
    exact main fuel listed L ρ a w (h2 C ds fuel listed L ρ a w hC hc)

/-- A region whose order is open. -/
theorem draw_ok (hT : TyOk P B) (hF : FnOk P B) {id : Nat} {arr : Array Oper} {rc : Rn R} (hrun : RunOk P rc r) {C : Ctx} (hC : C.P = P) (hok : codeOk C.nt (.region id arr true) = true) {Q : Exit → Act → World → Prop} (hq : NoOut Q) {ds : Ds} {kp : V → En → Hp → Nat → Option R} {κ : En → Hp → Nat → Option R} {e : En} {h : Hp} {nk n : Nat}
    (hh : (dosK arr.toList [] 0 [] arr.toList fun l => drawK B arr.toList (callK B rc) kp κ n l ⟨0, e, h, nk, [], []⟩) = some r)
    (hkp : ∀ v e' h' nk', kp v e' h' nk' = some r → ∀ L' ρ' a' w', St C L' ρ' e' ds h' nk' a' w' → ∀ x, rel L' ρ' v x → Q (.panic [{ v := x, recovered := false }]) a' w')
    (hκ : ∀ e' h' nk', κ e' h' nk' = some r → ∀ L' ρ' a' w', St C L' ρ' e' ds h' nk' a' w' → Q .normal a' w')
    {L : Nat → Prop} {ρ : Nat → Loc} {a : Act} {w : World} (hs : St C L ρ e ds h nk a w) : (Code.region id arr true).wp P Q a w := by
  subst hC
  obtain ⟨ops⟩ := arr
  simp only [codeOk, Bool.not_true, Bool.false_or, Bool.and_eq_true] at hok
  obtain ⟨hops, ⟨hdep, hlt⟩, _⟩ := hok
  have hdep := depOk_ok hdep
  have hlt := ltOk_ok hlt
  obtain ⟨l, h1, h2, h3, h4⟩ := dosK_some (ops := ops) hh (by simp) (by simp) (by intro p hp; cases hp)
  have hbz : ∀ i, ¬ isL (Array.replicate ops.length false) i := by
    intro i hi
    simp only [isL, Array.getD_eq_getD_getElem?] at hi
    rcases Nat.lt_or_ge i ops.length with h | h
    · simp [h] at hi
    · simp [Nat.not_lt.2 h] at hi
  have ha : AInv ops ⟨0, e, h, nk, [], []⟩ l := ⟨fun d hd => ⟨(h2 d hd).1, bit_zero _⟩, h3, fun i hi => .inr (h4 i (Nat.zero_le _) hi), fun i o hi => absurd hi (bit_zero i), by simp, by simp⟩
  refine wp_region_any hF.mixed (drawK_ok hT hF hdep hlt hrun rfl hops hq hkp hκ h1 ha ops.length (Array.replicate ops.length false) L ρ a _ ?_)
  refine ⟨by simp, by simp [cntL, List.count_replicate], fun i o hi => absurd hi (hbz i), fun i hi => absurd hi (hbz i), fun i hi => absurd hi (bit_zero i), hs.size, fun t v hv _ => hs.env t v hv, fun j oj hb => absurd hb (bit_zero j), hs.ds, ?_, hs.bd, by simp, by simp, hs.new, hs.nkb, ⟨hs.frm.os, hs.frm.tape, hs.frm.output, hs.frm.size⟩, hs.ext⟩
  exact hs.sat.less fun t o ht => by rw [Hless_some] at ht; exact ht.1
end
end Go.Kn
