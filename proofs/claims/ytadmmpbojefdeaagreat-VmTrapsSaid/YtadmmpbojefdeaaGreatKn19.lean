/-
  The engine is right: deferred functions, calls. Conditions: none.
-/
import Derived.Test.YtadmmpbojefdeaaGreatKn18
namespace Go.Kn
open Go
variable {R : Type} {r : R}

/-- What recover tells, and who is asked. -/
def Rc (c₀ : Frame) (cs : List Frame) (L : Nat → Prop) (ρ : Nat → Loc) (v : V) (css : List Frame) : Prop :=
  (c₀.mode = .returning ∧ v = .niface ∧ css = c₀ :: cs) ∨
  (∃ x, c₀.mode = .panicking [{ v := x, recovered := false }] ∧ ((isNif v = false ∧ rel L ρ v x ∧ css = c₀ :: cs) ∨ (v = .niface ∧ css = { c₀ with mode := .panicking [{ v := x, recovered := true }] } :: cs)))

theorem Rc.up {c₀ : Frame} {cs : List Frame} {L L' : Nat → Prop} {ρ ρ' : Nat → Loc} {v : V} {css : List Frame} (hx : Ext L ρ L' ρ') (h : Rc c₀ cs L ρ v css) : Rc c₀ cs L' ρ' v css := by
  rcases h with h | ⟨x, h1, ⟨h2, h3, h4⟩ | h2⟩
  · exact .inl h
  · exact .inr ⟨x, h1, .inl ⟨h2, rel_up hx h3, h4⟩⟩
  · exact .inr ⟨x, h1, .inr h2⟩

/-- One more call of recover. -/
theorem Rc.rec {c₀ : Frame} {cs : List Frame} {L : Nat → Prop} {ρ : Nat → Loc} {v : V} {css : List Frame} (h : Rc c₀ cs L ρ v css) :
    (∃ x css', recoverD css = some (x, css') ∧ rel L ρ v x ∧ Rc c₀ cs L ρ .niface css') ∨ (recoverD css = none ∧ rel L ρ v .nilIface ∧ Rc c₀ cs L ρ .niface css) := by
  rcases h with ⟨h1, rfl, rfl⟩ | ⟨x, h1, ⟨h2, h3, rfl⟩ | ⟨rfl, rfl⟩⟩
  · exact .inr ⟨by simp [recoverD, h1], by simp [rel], .inl ⟨h1, rfl, rfl⟩⟩
  · exact .inl ⟨x, _, by simp [recoverD, h1], h3, .inr ⟨x, h1, .inr ⟨rfl, rfl⟩⟩⟩
  · exact .inr ⟨by simp [recoverD], by simp [rel], .inr ⟨x, h1, .inr ⟨rfl, rfl⟩⟩⟩

section
variable {P : Program} {B : Tb}

/-- The operations of a deferred function's region. -/
theorem opsS_ok (hT : TyOk P B) {ops : List Oper} {C : Ctx} (hC : C.P = P) {c₀ : Frame} {cs : List Frame} {QS : Exit → Act → List Frame → World → Prop} {nk : Nat} : ∀ {l : List Oper} {i : Nat} {e : En} {h : Hp} {v : V} {κ : En → Hp → V → Option R}, opsS B ops l e h v κ = some r → ops.drop i = l → l.all (operOk C.nt) = true →
    (∀ e' h' v', κ e' h' v' = some r → ∀ L' ρ' a' w' css, St C L' ρ' e' [] h' nk a' w' → Rc c₀ cs L' ρ' v' css → QS .normal a' css w') →
    ∀ L ρ a w css, St C L ρ e [] h nk a w → Rc c₀ cs L ρ v css → wpOpsS P ⟨ops⟩ QS (List.range' i l.length) a css w
  | [], i, e, h, v, κ, hh, hd, hl, hκ, L, ρ, a, w, css, hs, hrc => by
    simp only [opsS] at hh
    exact hκ _ _ _ hh L ρ a w css hs hrc
  | o :: l, i, e, h, v, κ, hh, hd, hl, hκ, L, ρ, a, w, css, hs, hrc => by
    simp only [opsS] at hh
    obtain ⟨b, h1, h2⟩ := guardK_some hh
    have ho : (⟨ops⟩ : Array Oper)[i]? = some o := by
      have := congrArg (·[0]?) hd
      simpa using this
    have hd' : ops.drop (i + 1) = l := by
      have := congrArg (List.drop 1) hd
      simpa [List.drop_drop] using this
    simp only [List.all_cons, Bool.and_eq_true] at hl
    have hw := h2 L ρ a.tmps o (GdOk.of hs.env ops o.guard) rfl
    simp only [List.length_cons, List.range'_succ, wpOpsS, ho, hw]
    cases b with
    | false =>
      simp only at h1
      obtain ⟨e', h3, h4⟩ := putT_some h1
      have := opsS_ok hT hC h3 hd' hl.2 hκ L ρ _ w css (hs.put (x := undef) (by simp [rel, rels, undef]) (operOk_lt hl.1) h4) hrc
      simpa using this
    | true =>
      simp only at h1
      simp only [if_true]
      split at h1
      · rename_i args ats hop
        obtain ⟨e', h3, h4⟩ := putT_some h1
        have hrun : (execOp a.eval o).run P w = .ok .recover w := by
          simp [execOp, hop, resolve, invoke, builtin]
        rw [hrun]
        simp only
        rcases hrc.rec with ⟨x, css', g1, g2, g3⟩ | ⟨g1, g2, g3⟩
        · rw [g1]
          exact opsS_ok hT hC h3 hd' hl.2 hκ L ρ _ w css' (hs.put g2 (operOk_lt hl.1) h4) g3
        · rw [g1]
          exact opsS_ok hT hC h3 hd' hl.2 hκ L ρ _ w css (hs.put g2 (operOk_lt hl.1) h4) g3
      · split at h1
        · obtain ⟨u, h3, h4⟩ := opQ_sound hT h1
          obtain ⟨e', h5, h6⟩ := putT_some h3
          obtain ⟨y, g1, g2⟩ := h4 L ρ C.fr a.eval w (fun x _ => od_of_env hs.env x) hs.sat
          rw [g2 o rfl]
          simp only [Oper.upon]
          exact opsS_ok hT hC h5 hd' hl.2 hκ L ρ _ w css (hs.put g1 (operOk_lt hl.1) h6) hrc
        · cases h1

/-- A deferred function's code. -/
theorem runS_ok (hT : TyOk P B) {rc : Rn R} (hrun : RunOk P rc r) {C : Ctx} (hC : C.P = P) {c₀ : Frame} {cs : List Frame} : ∀ {c : Code} {e : En} {h : Hp} {nk : Nat} {v : V} {κ : Fi → En → Hp → Nat → V → Option R} {QS : Exit → Act → List Frame → World → Prop}, runS B rc c e h nk v κ = some r → codeOk C.nt c = true → (∀ css, NoOut fun e a w => QS e a css w) →
    (∀ fi e' h' nk' v', κ fi e' h' nk' v' = some r → ∀ L' ρ' a' w' css, St C L' ρ' e' [] h' nk' a' w' → Rc c₀ cs L' ρ' v' css → ExQ (fun e a w => QS e a css w) L' ρ' a' w' fi) →
    ∀ L ρ a w css, St C L ρ e [] h nk a w → Rc c₀ cs L ρ v css → c.wpS P QS a css w := by
  intro c
  have lift : ∀ {c : Code} {e : En} {h : Hp} {nk : Nat} {v : V} {κ : Fi → En → Hp → Nat → V → Option R} {QS : Exit → Act → List Frame → World → Prop}, (rc [.c c] e [] h nk fun fi e' ds' h' nk' => match ds' with
    | [] => κ fi e' h' nk' v
    | _ => none) = some r → codeOk C.nt c = true → (∀ css, NoOut fun e a w => QS e a css w) →
    (∀ fi e' h' nk' v', κ fi e' h' nk' v' = some r → ∀ L' ρ' a' w' css, St C L' ρ' e' [] h' nk' a' w' → Rc c₀ cs L' ρ' v' css → ExQ (fun e a w => QS e a css w) L' ρ' a' w' fi) →
    ∀ L ρ a w css, St C L ρ e [] h nk a w → Rc c₀ cs L ρ v css → c.wpS P QS a css w := by
    intro c e h nk v κ QS hh hc hq hκ L ρ a w css hs hrc
    refine wpS_of_wp ?_
    have := hrun hh { C with L0 := L, ρ0 := ρ, nk0 := nk } hC (fun e a w => QS e a css w) (hq css) (by simpa [kiOk] using hc) (fun fi e' ds' h' nk' hk L' ρ' a' w' hs' => by
      split at hk
      · exact hκ _ _ _ _ _ hk L' ρ' a' w' css ⟨hs'.size, hs'.env, hs'.ds, hs'.sat, hs'.bd, fun k hk => (by rcases hs'.new k hk with h | h; exact hs.new k h; exact .inr (Nat.le_trans hs.nkb h)), Nat.le_trans hs.nkb hs'.nkb, hs'.frm, hs.ext.trans hs'.ext⟩ (hrc.up hs'.ext)
      · cases hk) L ρ a w ⟨hs.size, hs.env, hs.ds, hs.sat, hs.bd, fun _ h => .inl h, Nat.le_refl _, hs.frm, Ext.refl _ _⟩
    exact this
  induction c with
  | seq x y ihx ihy =>
    intro e h nk v κ QS hh hc hq hκ L ρ a w css hs hrc
    simp only [runS] at hh
    simp only [codeOk, Bool.and_eq_true] at hc
    refine wpS_seq (ihx hh hc.1 (fun css => ⟨fun a w hx => ?_, fun l a w hx => ?_⟩) (fun fi e' h' nk' v' hk L' ρ' a' w' css' hs' hrc' => ?_) L ρ a w css hs hrc)
    · exact (hq css).out a w hx
    · exact (hq css).goto l a w hx
    · split at hk
      · exact ihy hk hc.2 hq hκ L' ρ' a' w' css' hs' hrc'
      · rename_i hne
        have := hκ _ _ _ _ _ hk L' ρ' a' w' css' hs' hrc'
        cases fi with
        | norm => exact absurd rfl hne
        | ret => exact this
        | pan u => exact this
  | region id ops draw =>
    intro e h nk v κ QS hh hc hq hκ L ρ a w css hs hrc
    cases draw with
    | true => exact lift hh hc hq hκ L ρ a w css hs hrc
    | false =>
      simp only [runS] at hh
      simp only [codeOk, Bool.not_false, Bool.true_or, Bool.and_true] at hc
      refine wpS_region ?_
      have := opsS_ok (QS := QS) hT hC (i := 0) hh (by simp) hc (fun e' h' v' hk L' ρ' a' w' css' hs' hrc' => hκ _ _ _ _ _ hk L' ρ' a' w' css' hs' hrc') L ρ a w css hs hrc
      rw [List.range_eq_range']
      simpa using this
  | _ =>
    intro e h nk v κ QS hh hc hq hκ L ρ a w css hs hrc
    exact lift hh hc hq hκ L ρ a w css hs hrc

theorem St.both {C : Ctx} {L : Nat → Prop} {ρ : Nat → Loc} {e : En} {ds : Ds} {h : Hp} {nk : Nat} {a : Act} {w : World} (hs : St C L ρ e ds h nk a w) : ∀ k, L k → k < nk ∧ (C.L0 k ∨ C.nk0 ≤ k) := fun k hk => ⟨hs.bd k hk, hs.new k hk⟩

theorem St.both2 {C C' : Ctx} {L L' : Nat → Prop} {ρ ρ' : Nat → Loc} {e e' : En} {ds ds' : Ds} {h h' : Hp} {nk nk' : Nat} {a a' : Act} {w w' : World} (hs : St C L ρ e ds h nk a w) (hs2 : St C' L' ρ' e' ds' h' nk' a' w') (hL : C'.L0 = L := by rfl) (hn : C'.nk0 = nk := by rfl) : ∀ k, L' k → k < nk' ∧ (C.L0 k ∨ C.nk0 ≤ k) := fun k hk => ⟨hs2.bd k hk, by
  rcases hs2.new k hk with h | h
  · rw [hL] at h; exact hs.new k h
  · rw [hn] at h; exact .inr (Nat.le_trans hs.nkb h)⟩

/-- A call. -/
theorem doCall_ok (hT : TyOk P B) (hF : FnOk P B) {rc : Rn R} (hrun : RunOk P rc r) {g : Nat} {vs : List V} {h : Hp} {nk : Nat} {kp : V → Hp → Nat → Option R} {kr : List V → Hp → Nat → Option R} (hh : doCall B rc g vs h nk kp kr = some r)
    {fr : Nat → Option Obj} {L : Nat → Prop} {ρ : Nat → Loc} {w : World} {xs : List Value} (hs : Sat L ρ h.get fr w.heap) (hbd : ∀ k, L k → k < nk) (hx : rels L ρ vs xs) {Rt : Ending → World → Prop} (hout : ∀ w, ¬ Rt .outgrown w)
    (hp : ∀ v h' nk', kp v h' nk' = some r → ∀ L' ρ' w' x, Ext L ρ L' ρ' → (∀ k, L' k → k < nk' ∧ (L k ∨ nk ≤ k)) → nk ≤ nk' → Sat L' ρ' h'.get fr w'.heap → Frm w w' → rel L' ρ' v x → Rt (.panicked [{ v := x, recovered := false }]) w')
    (hr : ∀ us h' nk', kr us h' nk' = some r → ∀ L' ρ' w' x, Ext L ρ L' ρ' → (∀ k, L' k → k < nk' ∧ (L k ∨ nk ≤ k)) → nk ≤ nk' → Sat L' ρ' h'.get fr w'.heap → Frm w w' → rel L' ρ' (tupV us) x → Rt (.returned x) w') :
    Calls P g xs.toArray w Rt ∧ ∃ F, P.funcs[g]? = some F ∧ F.name ≠ "runtime.NumGoroutine" ∧ F.body.isSome = true := by
  unfold doCall at hh
  split at hh
  · rename_i us hus
    obtain ⟨hcl, hpr⟩ := hF.pure _ _ _ hus
    refine ⟨(hpr L ρ xs w hx).mono fun e w' he => ?_, hcl⟩
    obtain ⟨x, rfl, h1, h2, h3⟩ := he
    exact hr _ _ _ hh L ρ w' x (Ext.refl _ _) (fun k hk => ⟨hbd k hk, .inl hk⟩) (Nat.le_refl _) (hs.grow h3) h2 (h1 L ρ)
  split at hh
  · rename_i F hF1
    obtain ⟨f1, f2, f3⟩ := hF.fn _ _ hF1
    split at hh
    · rename_i c hb
      refine ⟨?_, F, f1, f2, by rw [hb]; rfl⟩
      obtain ⟨e0, h1, h2⟩ := args_env (L := L) (ρ := ρ) (xs := xs) hh
      refine calls_of_wp_defers f1 hb ?_
      let C : Ctx := ⟨P, fr, w, L, ρ, nk, F.ntmps⟩
      have hst : St C L ρ e0 [] h nk { tmps := xs.toArray ++ Array.replicate (F.ntmps - xs.toArray.size) undef, defers := [] } w :=
        ⟨by simp [C]; omega, h2 F.ntmps hx, rfl, hs, hbd, fun _ h => .inl h, Nat.le_refl _, Frm.refl w, Ext.refl _ _⟩
      have hno : NoOut (bodyPostD P F Rt) := ⟨fun a w h => hout w h, fun l a w h => h⟩
      have := hrun h1 C rfl (bodyPostD P F Rt) hno (by simpa [kiOk] using f3 c hb) (fun fi e1 ds1 h' nk' hk L' ρ' a' w' hs' => ?_) L ρ _ w hst
      · exact this
      · -- the end of the body
        split at hk
        · have hd0 : a'.defers = [] := hs'.ds
          split at hk
          · rename_i v
            intro x hxv
            show Leaves P F a'.tmps Rt a'.defers _ w'
            rw [hd0]
            exact hp _ _ _ hk L' ρ' w' x hs'.ext hs'.both hs'.nkb hs'.sat hs'.frm hxv
          · rename_i hnp
            obtain ⟨us, h3, h4⟩ := results_some hT hk
            obtain ⟨x, h5, h6⟩ := h4 L' ρ' fr a' w' hs'.env hs'.sat
            have fin : Leaves P F a'.tmps Rt a'.defers .returning w' := by
              rw [hd0]
              exact ⟨x, h6, hr _ _ _ h3 L' ρ' w' x hs'.ext hs'.both hs'.nkb hs'.sat hs'.frm h5⟩
            cases fi with
            | pan v => exact absurd rfl (hnp v)
            | ret => exact fin
            | norm => exact fin
        · rename_i gd dvs
          obtain ⟨d, dl, ys, hd1, hd2, ⟨⟨fv, cap, hd3⟩, hd4⟩, hd5⟩ := hs'.ds
          have hd5 : dl = [] := hd5
          subst hd5
          unfold doDefer at hk
          split at hk
          · rename_i G hG1
            obtain ⟨g1, g2, g3⟩ := hF.fn _ _ hG1
            split at hk
            · rename_i cd hGb hGr
              obtain ⟨ed, k1, k2⟩ := args_env (L := L') (ρ := ρ') (xs := ys) hk
              have hGres : ∀ (tm : Array Value) (w : World), (results G tm).run P w = .ok (.tuple #[]) w := by
                intro tm w
                have : G.results = #[] := by apply Array.ext'; simpa using hGr
                rw [results_eq, this]
                simp
              have hinv : ∀ w, (invoke d.target d.args).run P w = .ok (.enter gd ys.toArray) w := fun w => hd4 G w g1 g2 (by rw [hGb]; rfl)
              let C' : Ctx := ⟨P, fr, w', L', ρ', nk', G.ntmps⟩
              have hst' : St C' L' ρ' ed [] h' nk' { tmps := ys.toArray ++ Array.replicate (G.ntmps - ys.toArray.size) undef, defers := [] } w' :=
                ⟨by simp [C']; omega, k2 G.ntmps hd2, rfl, hs'.sat, hs'.bd, fun _ h => .inl h, Nat.le_refl _, Frm.refl w', Ext.refl _ _⟩
              -- what is behind the deferred call
              have back : ∀ {L2 ρ2 h2 nk2 w2}, Ext L' ρ' L2 ρ2 → (∀ k, L2 k → k < nk2 ∧ (L k ∨ nk ≤ k)) → nk ≤ nk2 → Sat L2 ρ2 h2.get fr w2.heap → Frm w' w2 → (resT B e1 h2 F.results.toList fun us => kr us h2 nk2) = some r → Leaves P F a'.tmps Rt [] .returning w2 := by
                intro L2 ρ2 h2 nk2 w2 q1 q2 q2' q3 q4 q5
                obtain ⟨us, h3, h4⟩ := results_some hT q5
                obtain ⟨x, h5, h6⟩ := h4 L2 ρ2 fr a' w2 (hs'.env.up q1) q3
                exact ⟨x, h6, hr _ _ _ h3 L2 ρ2 w2 x (hs'.ext.trans q1) q2 q2' q3 (hs'.frm.trans q4) h5⟩
              have post : ∀ (c₀ : Frame) (cs : List Frame) (RD : Ending → FrameMode → World → Prop), (∀ u w, ¬ RD .outgrown u w) → ∀ css, NoOut fun e a w => bodyPostS P G c₀ cs RD e a css w :=
                fun c₀ cs RD hRD css => ⟨fun a w h => by obtain ⟨u', h⟩ := h; exact hRD _ _ h, fun l a w h => h⟩
              split at k1
              · rename_i v
                intro x hxv
                obtain ⟨hnif, k3⟩ : isNif v = false ∧ runS B rc cd ed h' nk' v (fun fi2 _ h' nk' v' => (match fi2 with
                  | .pan _ => none
                  | _ => bif isNif v' then resT B e1 h' F.results.toList fun us => kr us h' nk' else kp v h' nk')) = some r := by
                  cases hn : isNif v with
                  | true => rw [hn] at k1; cases k1
                  | false => rw [hn] at k1; exact ⟨rfl, k1⟩
                show Leaves P F a'.tmps Rt a'.defers (.panicking [{ v := x, recovered := false }]) w'
                rw [hd1]
                refine ⟨by simp, fv, cap, gd, ys.toArray, hd3, hinv w', callsD_of_wpS g1 hGb fun c₀ cs hu => ?_⟩
                refine runS_ok (C := C') hT hrun rfl (c₀ := c₀) (cs := cs) k3 (g3 cd hGb) (post c₀ cs _ (fun u w h => hout w h)) (fun fi2 e2 h2 nk2 v2 hk2 L2 ρ2 a2 w2 css hs2 hrc2 => ?_) L' ρ' _ w' _ hst' (.inr ⟨x, hu, .inl ⟨hnif, hxv, rfl⟩⟩)
                have hcore : ∀ {e : Exit}, (e = .normal ∨ e = .ret) → (bif isNif v2 then resT B e1 h2 F.results.toList fun us => kr us h2 nk2 else kp v h2 nk2) = some r → bodyPostS P G c₀ cs (fun
                    | .returned _, u', w' => Leaves P F a'.tmps Rt [] (settle u') w'
                    | .panicked chain, u', w' => Leaves P F a'.tmps Rt [] (raised u' chain) w'
                    | .outgrown, _, w' => Rt .outgrown w') e a2 css w2 := by
                  intro e he hk2
                  have hdone : ∃ u', css = { c₀ with mode := u' } :: cs ∧ Leaves P F a'.tmps Rt [] (settle u') w2 := by
                    rcases hrc2 with ⟨q1, _, _⟩ | ⟨x', q1, ⟨q2, q3, q4⟩ | ⟨q2, q4⟩⟩
                    · rw [hu] at q1; cases q1
                    · rw [q2] at hk2
                      refine ⟨.panicking [{ v := x, recovered := false }], by rw [q4, ← hu], ?_⟩
                      exact hp _ _ _ hk2 L2 ρ2 w2 x (hs'.ext.trans hs2.ext) (hs'.both2 hs2) (Nat.le_trans hs'.nkb hs2.nkb) hs2.sat (hs'.frm.trans hs2.frm) (rel_up hs2.ext hxv)
                    · subst q2
                      refine ⟨_, q4, ?_⟩
                      exact back hs2.ext (hs'.both2 hs2) (Nat.le_trans hs'.nkb hs2.nkb) hs2.sat hs2.frm hk2
                  obtain ⟨u', d1, d2⟩ := hdone
                  rcases he with rfl | rfl
                  · exact ⟨hs2.ds, u', d1, _, hGres _ _, d2⟩
                  · exact ⟨hs2.ds, u', d1, _, hGres _ _, d2⟩
                cases fi2 with
                | pan u => cases hk2
                | ret => exact hcore (.inr rfl) hk2
                | norm => exact hcore (.inl rfl) hk2
              · rename_i hnp
                have fin : Leaves P F a'.tmps Rt a'.defers .returning w' := by
                  rw [hd1]
                  refine ⟨by simp, fv, cap, gd, ys.toArray, hd3, hinv w', callsD_of_wpS g1 hGb fun c₀ cs hu => ?_⟩
                  refine runS_ok (C := C') hT hrun rfl (c₀ := c₀) (cs := cs) k1 (g3 cd hGb) (post c₀ cs _ (fun u w h => hout w h)) (fun fi2 e2 h2 nk2 v2 hk2 L2 ρ2 a2 w2 css hs2 hrc2 => ?_) L' ρ' _ w' _ hst' (.inl ⟨hu, rfl, rfl⟩)
                  have hcore : ∀ {e : Exit}, (e = .normal ∨ e = .ret) → (resT B e1 h2 F.results.toList fun us => kr us h2 nk2) = some r → bodyPostS P G c₀ cs (fun
                      | .returned _, u', w' => Leaves P F a'.tmps Rt [] (settle u') w'
                      | .panicked chain, u', w' => Leaves P F a'.tmps Rt [] (raised u' chain) w'
                      | .outgrown, _, w' => Rt .outgrown w') e a2 css w2 := by
                    intro e he hk2
                    have hdone : ∃ u', css = { c₀ with mode := u' } :: cs ∧ Leaves P F a'.tmps Rt [] (settle u') w2 := by
                      rcases hrc2 with ⟨q1, _, q3⟩ | ⟨x', q1, _⟩
                      · exact ⟨.returning, by rw [q3, ← hu], back hs2.ext (hs'.both2 hs2) (Nat.le_trans hs'.nkb hs2.nkb) hs2.sat hs2.frm hk2⟩
                      · rw [hu] at q1; cases q1
                    obtain ⟨u', d1, d2⟩ := hdone
                    rcases he with rfl | rfl
                    · exact ⟨hs2.ds, u', d1, _, hGres _ _, d2⟩
                    · exact ⟨hs2.ds, u', d1, _, hGres _ _, d2⟩
                  cases fi2 with
                  | pan u => cases hk2
                  | ret => exact hcore (.inr rfl) hk2
                  | norm => exact hcore (.inl rfl) hk2
                cases fi with
                | pan v => exact absurd rfl (hnp v)
                | ret => exact fin
                | norm => exact fin
            · cases hk
          · cases hk
        · cases hk
    · cases hh
  · cases hh
end
end Go.Kn
