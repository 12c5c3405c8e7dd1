/-
  The engine is right: walks through code, calls, panics. Conditions: none.
-/
import Derived.Test.YtadmmpbojefdeaaGreatKn17
namespace Go.Kn
open Go
variable {R : Type} {r : R}

structure Ctx where
  P : Program
  fr : Nat → Option Obj
  w0 : World
  L0 : Nat → Prop
  ρ0 : Nat → Loc
  nk0 : Nat
  nt : Nat

structure St (C : Ctx) (L : Nat → Prop) (ρ : Nat → Loc) (e : En) (ds : Ds) (h : Hp) (nk : Nat) (a : Act) (w : World) : Prop where
  size : C.nt ≤ a.tmps.size
  env : EnvOk L ρ e a
  ds : DsOk C.P L ρ ds a.defers
  sat : Sat L ρ h.get C.fr w.heap
  bd : ∀ k, L k → k < nk
  new : ∀ k, L k → C.L0 k ∨ C.nk0 ≤ k
  nkb : C.nk0 ≤ nk
  frm : Frm C.w0 w
  ext : Ext C.L0 C.ρ0 L ρ

def kx (P : Program) (Q : Exit → Act → World → Prop) : List KI → Exit → Act → World → Prop
  | [], e => Q e
  | .c c :: k, .normal => c.wp P (kx P Q k)
  | .o ops l :: k, .normal => wpList P ops (kx P Q k) l
  | .b _ :: k, .normal => kx P Q k .normal
  | .b id :: k, .exit i => if i = id then kx P Q k .normal else kx P Q k (.exit i)
  | _ :: k, e => kx P Q k e

structure NoOut (Q : Exit → Act → World → Prop) : Prop where
  out : ∀ a w, ¬ Q .outgrown a w
  goto : ∀ l a w, ¬ Q (.goto l) a w

def kiOk (nt : Nat) : KI → Bool
  | .c c => codeOk nt c
  | .o _ l => l.all (operOk nt)
  | .b _ => true

def ExQ (Q : Exit → Act → World → Prop) (L : Nat → Prop) (ρ : Nat → Loc) (a : Act) (w : World) : Fi → Prop
  | .norm => Q .normal a w
  | .ret => Q .ret a w
  | .pan v => ∀ x, rel L ρ v x → Q (.panic [{ v := x, recovered := false }]) a w

/-- A run of the evaluator is right. -/
def RunOk (P : Program) (rc : Rn R) (r : R) : Prop := ∀ {k e ds h nk} {κ : K R}, rc k e ds h nk κ = some r → ∀ (C : Ctx), C.P = P → ∀ Q, NoOut Q → (∀ i ∈ k, kiOk C.nt i = true) →
  (∀ fi e' ds' h' nk', κ fi e' ds' h' nk' = some r → ∀ L' ρ' a' w', St C L' ρ' e' ds' h' nk' a' w' → ExQ Q L' ρ' a' w' fi) → ∀ L ρ a w, St C L ρ e ds h nk a w → kx P Q k .normal a w

section
variable {P : Program} {Q : Exit → Act → World → Prop}

theorem kx_nil : kx P Q [] = Q := by funext e; rfl
theorem kx_ret : ∀ (k : List KI), kx P Q k .ret = Q .ret
  | [] => rfl
  | .c _ :: k | .o _ _ :: k | .b _ :: k => by simp only [kx]; exact kx_ret k
theorem kx_panic (ch : List PanicEntry) : ∀ (k : List KI), kx P Q k (.panic ch) = Q (.panic ch)
  | [] => rfl
  | .c _ :: k | .o _ _ :: k | .b _ :: k => by simp only [kx]; exact kx_panic ch k
theorem kx_out : ∀ (k : List KI), kx P Q k .outgrown = Q .outgrown
  | [] => rfl
  | .c _ :: k | .o _ _ :: k | .b _ :: k => by simp only [kx]; exact kx_out k
theorem kx_goto (l : Nat) : ∀ (k : List KI), kx P Q k (.goto l) = Q (.goto l)
  | [] => rfl
  | .c _ :: k | .o _ _ :: k | .b _ :: k => by simp only [kx]; exact kx_goto l k

theorem NoOut.kx (hq : NoOut Q) (k : List KI) : NoOut (Kn.kx P Q k) := ⟨fun a w => by rw [kx_out]; exact hq.out a w, fun l a w => by rw [kx_goto]; exact hq.goto l a w⟩

theorem kx_exit {id : Nat} : ∀ {k k' : List KI}, popTo id k = some k' → kx P Q k (.exit id) = kx P Q k' .normal
  | [], _, h => by simp [popTo] at h
  | .b i :: k, k', h => by
    simp only [popTo] at h
    cases hb : Nat.beq i id with
    | true => rw [hb] at h; simp only [cond_true, Option.some.injEq] at h; have := nat_beq hb; subst this h; simp [kx]
    | false => rw [hb] at h; have hne := nat_beq_ne hb; simp only [cond_false] at h; simp only [kx]; rw [if_neg (fun e => hne e.symm)]; exact kx_exit h
  | .c c :: k, k', h => by simp only [popTo] at h; simp only [kx]; exact kx_exit h
  | .o ops l :: k, k', h => by simp only [popTo] at h; simp only [kx]; exact kx_exit h

theorem popTo_mem {id : Nat} : ∀ {k k' : List KI}, popTo id k = some k' → ∀ i ∈ k', i ∈ k
  | [], _, h => by simp [popTo] at h
  | .b j :: k, k', h => by
    simp only [popTo] at h
    intro i hi
    cases hb : Nat.beq j id with
    | true => rw [hb] at h; simp only [cond_true, Option.some.injEq] at h; subst h; exact List.mem_cons_of_mem _ hi
    | false => rw [hb] at h; exact List.mem_cons_of_mem _ (popTo_mem h i hi)
  | .c c :: k, k', h => fun i hi => List.mem_cons_of_mem _ (popTo_mem (by simpa only [popTo] using h) i hi)
  | .o ops l :: k, k', h => fun i hi => List.mem_cons_of_mem _ (popTo_mem (by simpa only [popTo] using h) i hi)

theorem exit_then_eq {b : Code} {k : List KI} : Exit.then (b.wp P (kx P Q k)) (kx P Q k) = kx P Q (.c b :: k) := by
  funext e a w
  cases e <;> rfl

theorem inBlock_eq {id : Nat} {k : List KI} : Exit.inBlock id (kx P Q k) = kx P Q (.b id :: k) := by
  funext e a w
  cases e with
  | exit i =>
    simp only [Exit.inBlock, kx]
    by_cases h : i = id
    · subst h; simp
    · simp [h]
  | _ => rfl

theorem wpList_take {ops : Array Oper} {a : Act} {w : World} {rest : List Oper} {o : Oper}
    (hw : Region.wanted o (yielded ops a.tmps) = true) (h : o.wp P a w (wpList P ops Q rest) Q) : wpList P ops Q (o :: rest) a w := by
  unfold wpList
  rw [if_pos hw]
  exact .inl h

theorem wpList_pass {ops : Array Oper} {a : Act} {w : World} {rest : List Oper} {o : Oper}
    (hw : Region.wanted o (yielded ops a.tmps) = false) (h : wpList P ops Q rest (a.put o.dst undef) w) : wpList P ops Q (o :: rest) a w := by
  unfold wpList
  rw [if_neg (by rw [hw]; simp)]
  exact h

theorem exitTo_length {id : Nat} : ∀ {k k' : List Item}, exitTo id k = some k' → k'.length ≤ k.length := by
  intro k
  induction k with
  | nil => intro k' h; simp [exitTo] at h
  | cons i k ih =>
    intro k' h
    cases i <;> simp only [exitTo] at h <;> first
      | (have := ih h; simp; omega)
      | (split at h
         · cases h; simp
         · have := ih h; simp; omega)

/-- A loop is one round, and the loop. -/
theorem wp_loop_unroll {b : Code} (hq : NoOut Q) {a : Act} {w : World} (h : b.wp P (Exit.then ((Code.loop b).wp P Q) Q) a w) : (Code.loop b).wp P Q a w := by
  intro f k cs
  obtain ⟨e, a1, w1, h1, h2⟩ := h f (.inLoop b :: k) cs
  cases e with
  | normal =>
    obtain ⟨e2, a2, w2, h3, h4⟩ := h1 f k cs
    refine ⟨e2, a2, w2, h3, ?_⟩
    have hs : Steps P (lone (f.at a (.code (.loop b) :: k)) cs w) (lone (f.at a1 (.code b :: .inLoop b :: k)) cs w1) := .head step_loop (Steps.trans h2 (.one step_inLoop))
    have skip : ∀ {m'}, m' ≠ lone (f.at a1 (.code (.loop b) :: k)) cs w1 → Steps P (lone (f.at a1 (.code (.loop b) :: k)) cs w1) m' → Steps P (lone (f.at a1 (.code b :: .inLoop b :: k)) cs w1) m' := by
      rintro m' hne ⟨n, hn⟩
      cases n with
      | zero => simp only [runN] at hn; exact absurd (by injection hn with hn; exact hn.symm) hne
      | succ n =>
        simp only [runN, step_loop] at hn
        exact ⟨n, hn⟩
    have fr_ne : ∀ {fr1 fr2 : Frame} {cs1 w1' cs2 w2'}, fr1 ≠ fr2 → lone fr1 cs1 w1' ≠ lone fr2 cs2 w2' := by
      intro fr1 fr2 cs1 w1' cs2 w2' hne heq
      apply hne
      simp only [lone, Machine.mk.injEq] at heq
      have := heq.2.1
      simp at this
      exact this.1
    cases e2 with
    | normal =>
      refine Steps.trans hs (skip (fr_ne fun heq => ?_) h4)
      have := congrArg Frame.todo heq
      simp only [Frame.at] at this
      exact absurd (congrArg List.length this) (by simp)
    | exit id =>
      intro k' hk'
      refine Steps.trans hs (skip (fr_ne fun heq => ?_) (h4 k' hk'))
      have := congrArg Frame.todo heq
      simp only [Frame.at] at this
      have h5 := congrArg List.length this
      have h6 := exitTo_length hk'
      simp at h5; omega
    | goto l => exact absurd h3 (hq.goto l a2 w2)
    | ret =>
      obtain ⟨todo, h4⟩ := h4
      refine ⟨todo, Steps.trans hs (skip (fr_ne fun heq => ?_) h4)⟩
      have := congrArg Frame.mode heq
      simp [Frame.at] at this
    | panic ch =>
      obtain ⟨todo, h4⟩ := h4
      refine ⟨todo, Steps.trans hs (skip (fr_ne fun heq => ?_) h4)⟩
      have := congrArg Frame.mode heq
      simp [Frame.at] at this
    | outgrown => exact absurd h3 (hq.out a2 w2)
  | exit id => exact ⟨_, a1, w1, h1, .of_steps (.one step_loop) (.pass (x := .inLoop b) rfl (fun _ _ => .inl (by simp)) h2)⟩
  | goto l => exact absurd h1 (hq.goto l a1 w1)
  | ret => exact ⟨_, a1, w1, h1, .of_steps (.one step_loop) (.pass (x := .inLoop b) rfl (fun _ _ => .inl (by simp)) h2)⟩
  | panic ch => exact ⟨_, a1, w1, h1, .of_steps (.one step_loop) (.pass (x := .inLoop b) rfl (fun _ _ => .inl (by simp)) h2)⟩
  | outgrown => exact absurd h1 (hq.out a1 w1)
end

section
variable {P : Program} {B : Tb}

theorem EnvOk.up {L L' : Nat → Prop} {ρ ρ' : Nat → Loc} (hx : Ext L ρ L' ρ') {e : En} {a : Act} (h : EnvOk L ρ e a) : EnvOk L' ρ' e a := fun i v hv => let ⟨x, h1, h2⟩ := h i v hv; ⟨x, h1, rel_up hx h2⟩

theorem St.next {C : Ctx} {L L' : Nat → Prop} {ρ ρ' : Nat → Loc} {e : En} {ds : Ds} {h h' : Hp} {nk nk' : Nat} {a : Act} {w w' : World} (hs : St C L ρ e ds h nk a w) (hx : Ext L ρ L' ρ') (hsat : Sat L' ρ' h'.get C.fr w'.heap) (hbd : ∀ k, L' k → k < nk' ∧ (L k ∨ nk ≤ k)) (hn : nk ≤ nk') (hf : Frm w w') : St C L' ρ' e ds h' nk' a w' :=
  ⟨hs.size, hs.env.up hx, hs.ds.up hx, hsat, fun k hk => (hbd k hk).1, fun k hk => by
    rcases (hbd k hk).2 with h | h
    · exact hs.new k h
    · exact .inr (Nat.le_trans hs.nkb h), Nat.le_trans hs.nkb hn, hs.frm.trans hf, hs.ext.trans hx⟩

theorem putT_some {e : En} {d : Option Nat} {v : V} {κ : En → Option R} (hh : putT e d v κ = some r) : ∃ e', κ e' = some r ∧ ∀ {L ρ a nt x}, EnvOk L ρ e a → rel L ρ v x → (∀ i, d = some i → i < nt) → nt ≤ a.tmps.size → EnvOk L ρ e' (a.put d x) ∧ (a.put d x).tmps.size = a.tmps.size := by
  unfold putT at hh
  split at hh
  · rename_i d
    obtain ⟨e', h1, h2⟩ := Tr.setK_some _ hh
    refine ⟨e', h1, fun {L ρ a nt x} he hv hd hn => ⟨fun i u hu => ?_, by simp [Act.put]⟩⟩
    rw [h2 i] at hu
    have hlt : d < a.tmps.size := Nat.lt_of_lt_of_le (hd d rfl) hn
    split at hu
    · rename_i hi
      subst hi; cases hu
      exact ⟨x, by simp [Act.put, hlt], hv⟩
    · rename_i hi
      obtain ⟨y, h3, h4⟩ := he i u hu
      exact ⟨y, by simp only [Act.put]; rw [Array.getElem?_setIfInBounds_ne (fun e => hi e.symm)]; exact h3, h4⟩
  · exact ⟨e, hh, fun he _ _ _ => ⟨he, rfl⟩⟩

theorem operOk_lt {nt : Nat} {o : Oper} (h : operOk nt o = true) : ∀ i, o.dst = some i → i < nt := by
  intro i hi
  unfold operOk at h
  rw [hi] at h
  simpa [Nat.blt_eq] using h

theorem St.put {C : Ctx} {L : Nat → Prop} {ρ : Nat → Loc} {e e' : En} {ds : Ds} {h : Hp} {nk : Nat} {a : Act} {w : World} {d : Option Nat} {v : V} {x : Value} (hs : St C L ρ e ds h nk a w) (hv : rel L ρ v x) (hd : ∀ i, d = some i → i < C.nt)
    (hp : ∀ {L ρ a nt x}, EnvOk L ρ e a → rel L ρ v x → (∀ i, d = some i → i < nt) → nt ≤ a.tmps.size → EnvOk L ρ e' (a.put d x) ∧ (a.put d x).tmps.size = a.tmps.size) : St C L ρ e' ds h nk (a.put d x) w := by
  obtain ⟨h1, h2⟩ := hp hs.env hv hd hs.size
  refine ⟨by rw [h2]; exact hs.size, h1, ?_, hs.sat, hs.bd, hs.new, hs.nkb, hs.frm, hs.ext⟩
  have : (a.put d x).defers = a.defers := by cases d <;> rfl
  rw [this]; exact hs.ds

/-- The walk goes on behind an operation. -/
theorem contK_ok {rc : Rn R} (hrc : RunOk P rc r) {o : Oper} {ops : Array Oper} {l : List Oper} {k : List KI} {e : En} {ds : Ds} {κ : K R} {v : V} {h : Hp} {nk : Nat} (hh : contK rc o ops l k e ds κ v h nk = some r)
    {C : Ctx} (hC : C.P = P) {Q : Exit → Act → World → Prop} (hq : NoOut Q) (ho : operOk C.nt o = true) (hl : l.all (operOk C.nt) = true) (hk : ∀ i ∈ k, kiOk C.nt i = true)
    (hκ : ∀ fi e' ds' h' nk', κ fi e' ds' h' nk' = some r → ∀ L' ρ' a' w', St C L' ρ' e' ds' h' nk' a' w' → ExQ Q L' ρ' a' w' fi) {L : Nat → Prop} {ρ : Nat → Loc} {a : Act} {w : World} {x : Value} (hs : St C L ρ e ds h nk a w) (hv : rel L ρ v x) :
    wpList P ops (kx P Q k) l (a.put o.dst x) w := by
  obtain ⟨e', h1, h2⟩ := putT_some (show putT e o.dst v _ = some r from hh)
  have := hrc h1 C hC Q hq (fun i hi => by
    simp only [List.mem_cons] at hi
    rcases hi with rfl | hi
    · exact hl
    · exact hk i hi) hκ L ρ _ w (hs.put hv (operOk_lt ho) h2)
  exact this

theorem NoOut.letsOut {Q : Exit → Act → World → Prop} (hq : NoOut Q) : ¬ LetsOut Q := fun ⟨a, w, h⟩ => hq.out a w h
end
end Go.Kn
