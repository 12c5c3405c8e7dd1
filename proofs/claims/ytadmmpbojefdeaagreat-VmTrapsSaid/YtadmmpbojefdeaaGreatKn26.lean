/-
  The engine is right: the whole run. Conditions: none.
-/
import Derived.Test.YtadmmpbojefdeaaGreatKn25
namespace Go.Kn
open Go
variable {R : Type} {r : R}

section
variable {P : Program} {B : Tb}

theorem run_panic {t : TypeId} {v : Value} (w : World) : (Instr.panic (.iface t v)).run P w = .halt (.panic (.iface t v)) w := rfl

/-- One operation of a row. -/
theorem doO_ok (hT : TyOk P B) (hF : FnOk P B) {rc : Rn R} (hrc : RunOk P rc r) {o : Oper} {ops : Array Oper} {l : List Oper} {k : List KI} {e : En} {ds : Ds} {h : Hp} {nk : Nat} {κ : K R} (hh : doO B rc o ops l k e ds h nk κ = some r)
    {C : Ctx} (hC : C.P = P) {Q : Exit → Act → World → Prop} (hq : NoOut Q) (ho : operOk C.nt o = true) (hl : l.all (operOk C.nt) = true) (hk : ∀ i ∈ k, kiOk C.nt i = true)
    (hκ : ∀ fi e' ds' h' nk', κ fi e' ds' h' nk' = some r → ∀ L' ρ' a' w', St C L' ρ' e' ds' h' nk' a' w' → ExQ Q L' ρ' a' w' fi)
    {L : Nat → Prop} {ρ : Nat → Loc} {a : Act} {w : World} (hs : St C L ρ e ds h nk a w) : wpList P ops (kx P Q k) (o :: l) a w := by
  unfold doO at hh
  obtain ⟨b, h1, h2⟩ := guardK_some hh
  have hw := h2 L ρ a.tmps o (GdOk.of hs.env _ _) rfl
  have hw : Region.wanted o (yielded ops a.tmps) = b := by simpa using hw
  have hod : ∀ x ∈ o.op.operands.toList, Od L ρ e a.eval x := fun x _ => od_of_env hs.env x
  cases b with
  | false =>
    simp only at h1
    refine wpList_pass hw ?_
    exact contK_ok hrc h1 hC hq ho hl hk hκ hs (by simp [rel, rels, undef])
  | true =>
    simp only at h1
    refine wpList_take hw ?_
    generalize kndOf B o.op = kd at h1
    cases kd <;> simp only at h1
    · obtain ⟨v, h3, h4⟩ := opQ_sound hT h1
      obtain ⟨y, g1, g2⟩ := h4 L ρ C.fr a.eval w hod hs.sat
      unfold Oper.wp
      rw [g2 o rfl, Oper.upon_value]
      exact contK_ok hrc h3 hC hq ho hl hk hκ hs g1
    · obtain ⟨v, b, h3, h4⟩ := opA_sound hT h1
      obtain ⟨h', h5, h6⟩ := newK_some h3
      have hH := h4.heavy h6
      obtain ⟨n, y, w', L', ρ', q1, q2, q3, q4, q5, q6, q7⟩ := hH.2 L ρ C.fr a.eval w hod hs.sat hs.bd
      unfold Oper.wp
      rw [q1 o rfl]
      have := contK_ok hrc h5 hC hq ho hl hk hκ (hs.next q4 q7 q5 hH.1 q3) q6
      rcases q2 with rfl | ⟨rfl, rfl⟩
      · exact this
      · exact this
    · obtain ⟨v, h', nk', h3, hH⟩ := opH_sound hT h1
      obtain ⟨n, y, w', L', ρ', q1, q2, q3, q4, q5, q6, q7⟩ := hH.2 L ρ C.fr a.eval w hod hs.sat hs.bd
      unfold Oper.wp
      rw [q1 o rfl]
      have := contK_ok hrc h3 hC hq ho hl hk hκ (hs.next q4 q7 q5 hH.1 q3) q6
      rcases q2 with rfl | ⟨rfl, rfl⟩
      · exact this
      · exact this
    · split at h1
      · rename_i c hop
        refine callK_ok hT hF hrc h1 hop (hq.kx k) hod hs.sat hs.bd (fun v h' nk' hk L' ρ' w' x e1 e2 e3 e4 e5 e6 => ?_) (fun v h' nk' hk2 L' ρ' w' x e1 e2 e3 e4 e5 e6 => ?_)
        · rw [kx_panic]
          exact hκ _ _ _ _ _ hk L' ρ' a w' (hs.next e1 e4 e2 e3 e5) x e6
        · exact contK_ok hrc hk2 hC hq ho hl hk hκ (hs.next e1 e4 e2 e3 e5) e6
      · cases h1
    · split at h1
      · rename_i c hop
        obtain ⟨g, vs, n1, n2⟩ := calleeK_some hF h1
        obtain ⟨df, xs, n3, n4, n5⟩ := n2 L ρ a.eval o.type (fun x hx => hod x (by rw [hop]; exact hx))
        obtain ⟨e', m1, m2⟩ := putT_some n1
        have hrun : (execOp a.eval o).run P w = .ok (.defer df) w := by
          simp only [execOp, hop, Sem.run_bind, n3, Result.andThen_ok]; rfl
        unfold Oper.wp
        rw [hrun, Oper.upon_defer]
        have hs1 : St C L ρ e ((g, vs) :: ds) h nk { a with defers := df :: a.defers } w :=
          ⟨hs.size, hs.env, ⟨df, a.defers, xs, rfl, n4, by rw [hC]; exact n5, hs.ds⟩, hs.sat, hs.bd, hs.new, hs.nkb, hs.frm, hs.ext⟩
        exact hrc m1 C hC Q hq (fun i hi => by
          simp only [List.mem_cons] at hi
          rcases hi with rfl | hi
          · exact hl
          · exact hk i hi) hκ L ρ _ w (hs1.put (x := undef) (by simp [rel, rels, undef]) (operOk_lt ho) m2)
      · cases h1
    · split at h1
      · rename_i x hop
        obtain ⟨v, n1, n2⟩ := opv_some h1
        split at n2
        · rename_i t u
          have hx := hod x (by rw [hop]; simp [Op.operands]) _ n1
          have hx' := hx
          simp only [rel] at hx'
          obtain ⟨y, ey, _⟩ := hx'
          have hrun : (execOp a.eval o).run P w = .halt (.panic (a.eval x)) w := by
            simp only [execOp, hop, Sem.run_bind, ey]
            rw [run_panic]
            rfl
          unfold Oper.wp
          rw [hrun, Oper.upon_panic, kx_panic]
          exact hκ _ _ _ _ _ n2 L ρ a w hs _ hx
        · cases n2
      · cases h1
    · cases h1

theorem step_ok (hT : TyOk P B) (hF : FnOk P B) {rc : Rn R} (hrc : RunOk P rc r) : RunOk P (stepK B rc) r := by
  intro k e ds h nk κ hh C hC Q hq hk hκ L ρ a w hs
  have hkk : ∀ i k', k = i :: k' → kiOk C.nt i = true ∧ ∀ i ∈ k', kiOk C.nt i = true := fun i k' e => by
    subst e; exact ⟨hk _ (by simp), fun j hj => hk j (by simp [hj])⟩
  match k, hk, hkk, hh with
  | [], _, _, hh => exact hκ _ _ _ _ _ hh L ρ a w hs
  | .b id :: k, _, hkk, hh => exact hrc hh C hC Q hq (hkk _ _ rfl).2 hκ L ρ a w hs
  | .o ops [] :: k, _, hkk, hh => exact hrc hh C hC Q hq (hkk _ _ rfl).2 hκ L ρ a w hs
  | .o ops (o :: l) :: k, _, hkk, hh =>
    have h1 := (hkk _ _ rfl).1
    simp only [kiOk, List.all_cons, Bool.and_eq_true] at h1
    exact doO_ok hT hF hrc (show doO B rc o ops l k e ds h nk κ = some r from hh) hC hq h1.1 h1.2 (hkk _ _ rfl).2 hκ hs
  | .c c :: k, _, hkk, hh =>
    have h1 : codeOk C.nt c = true := (hkk _ _ rfl).1
    have h2 := (hkk _ _ rfl).2
    have two : ∀ {i : KI}, kiOk C.nt i = true → ∀ j ∈ i :: k, kiOk C.nt j = true := fun hi j hj => by
      simp only [List.mem_cons] at hj
      rcases hj with rfl | hj
      · exact hi
      · exact h2 j hj
    have hh : codeK B rc c k e ds h nk κ = some r := hh
    show c.wp P (kx P Q k) a w
    cases c with
    | skip => exact wp_skip (hrc hh C hC Q hq h2 hκ L ρ a w hs)
    | ret =>
      refine wp_ret ?_
      rw [kx_ret]
      exact hκ _ _ _ _ _ hh L ρ a w hs
    | region id ops draw =>
      cases draw with
      | true =>
        subst hC
        refine draw_ok hT hF hrc rfl h1 (hq.kx k) hh (fun v e' h' nk' hκ' L' ρ' a' w' hs' x hx => ?_) (fun e' h' nk' hκ' L' ρ' a' w' hs' => hrc hκ' C rfl Q hq h2 hκ L' ρ' a' w' hs') hs
        rw [kx_panic]
        exact hκ _ _ _ _ _ hκ' L' ρ' a' w' hs' x hx
      | false =>
        refine wp_region_list ?_
        simp only [codeOk, Bool.not_false, Bool.true_or, Bool.and_true] at h1
        exact hrc (k := .o ops ops.toList :: k) hh C hC Q hq (two (by simpa [kiOk] using h1)) hκ L ρ a w hs
    | seq x y =>
      simp only [codeOk, Bool.and_eq_true] at h1
      refine wp_seq ?_
      rw [exit_then_eq]
      refine hrc (k := .c x :: .c y :: k) hh C hC Q hq (fun j hj => ?_) hκ L ρ a w hs
      simp only [List.mem_cons] at hj
      rcases hj with rfl | rfl | hj
      · exact h1.1
      · exact h1.2
      · exact h2 j hj
    | cond x y z =>
      simp only [codeOk, Bool.and_eq_true] at h1
      obtain ⟨v, n1, n2⟩ := opv_some (show opv e x _ = some r from hh)
      have hx := od_of_env hs.env x _ n1
      split at n2
      · simp only [rel] at hx
        exact wp_cond_true hx (hrc n2 C hC Q hq (two h1.1) hκ L ρ a w hs)
      · simp only [rel] at hx
        exact wp_cond_false hx (hrc n2 C hC Q hq (two h1.2) hκ L ρ a w hs)
      · cases n2
    | block id b =>
      refine wp_block ?_
      rw [inBlock_eq]
      refine hrc (k := .c b :: .b id :: k) hh C hC Q hq (fun j hj => ?_) hκ L ρ a w hs
      simp only [List.mem_cons] at hj
      rcases hj with rfl | rfl | hj
      · exact h1
      · rfl
      · exact h2 j hj
    | exit id =>
      simp only [codeK] at hh
      split at hh
      · rename_i k' hp
        refine wp_exit ?_
        rw [kx_exit hp]
        exact hrc hh C hC Q hq (fun i hi => h2 i (popTo_mem hp i hi)) hκ L ρ a w hs
      · cases hh
    | loop b =>
      refine wp_loop_unroll (hq.kx k) ?_
      rw [exit_then_eq]
      refine hrc (k := .c b :: .c (.loop b) :: k) hh C hC Q hq (fun j hj => ?_) hκ L ρ a w hs
      simp only [List.mem_cons] at hj
      rcases hj with rfl | rfl | hj
      · exact h1
      · exact h1
      · exact h2 j hj
    | _ => cases hh

theorem run_ok (hT : TyOk P B) (hF : FnOk P B) : ∀ n, RunOk P (run (R := R) B n) r := by
  intro n
  induction n with
  | zero => intro k e ds h nk κ hh; cases hh
  | succ n hrc => exact step_ok hT hF hrc

/-- A whole call, run by the evaluator. -/
theorem goK_ok (hT : TyOk P B) (hF : FnOk P B) {n g : Nat} {vs : List V} {h : Hp} {nk : Nat} {kp : V → Hp → Nat → Option R} {kr : List V → Hp → Nat → Option R} (hh : goK B n g vs h nk kp kr = some r)
    {fr : Nat → Option Obj} {L : Nat → Prop} {ρ : Nat → Loc} {w : World} {xs : List Value} (hs : Sat L ρ h.get fr w.heap) (hbd : ∀ k, L k → k < nk) (hx : rels L ρ vs xs) {Rt : Ending → World → Prop} (hout : ∀ w, ¬ Rt .outgrown w)
    (hp : ∀ v h' nk', kp v h' nk' = some r → ∀ L' ρ' w' x, Ext L ρ L' ρ' → (∀ k, L' k → k < nk' ∧ (L k ∨ nk ≤ k)) → nk ≤ nk' → Sat L' ρ' h'.get fr w'.heap → Frm w w' → rel L' ρ' v x → Rt (.panicked [{ v := x, recovered := false }]) w')
    (hr : ∀ us h' nk', kr us h' nk' = some r → ∀ L' ρ' w' x, Ext L ρ L' ρ' → (∀ k, L' k → k < nk' ∧ (L k ∨ nk ≤ k)) → nk ≤ nk' → Sat L' ρ' h'.get fr w'.heap → Frm w w' → rel L' ρ' (tupV us) x → Rt (.returned x) w') : Calls P g xs.toArray w Rt :=
  (doCall_ok hT hF (run_ok hT hF n) hh hs hbd hx hout hp hr).1
end
end Go.Kn
