/-
  The engine: tables of a program, laid by program, and their check. Conditions: none.
-/
import Derived.Test.YtadmmpbojefdeaaGreatKn26
namespace Go.Kn
open Go

/-- All that a trie holds; a * j + b is the number of what stands at j. -/
def allT {α : Type} (p : Nat → α → Bool) : Tr α → Nat → Nat → Bool
  | .lf, _, _ => true
  | .nd l v r, a, b => (match v with
    | some x => p b x
    | none => true) && (allT p l (Nat.mul 2 a) (Nat.add a b) && allT p r (Nat.mul 2 a) (Nat.add (Nat.mul 2 a) b))

theorem allT_get {α : Type} {p : Nat → α → Bool} : ∀ {t : Tr α} {a b j : Nat} {x : α}, allT p t a b = true → t.get j = some x → p (a * j + b) x = true
  | .lf, a, b, j, x, _, h => by simp [Tr.get_lf] at h
  | .nd l v r, a, b, j, x, h, hj => by
    simp only [allT, Bool.and_eq_true] at h
    obtain ⟨h1, h2, h3⟩ := h
    rw [Tr.get_nd] at hj
    split at hj
    · rename_i e; subst e hj
      simpa using h1
    · split at hj
      · rename_i hne ho
        have := allT_get h2 hj
        rw [show a * j + b = Nat.mul 2 a * (j / 2) + Nat.add a b from ?_]
        · exact this
        · show a * j + b = 2 * a * (j / 2) + (a + b)
          obtain ⟨m, hm⟩ : ∃ m, j = 2 * m + 1 := ⟨j / 2, by omega⟩
          subst hm
          rw [show (2 * m + 1) / 2 = m by omega, Nat.mul_add, Nat.mul_one, ← Nat.mul_assoc, Nat.mul_comm a 2]
          omega
      · rename_i hne ho
        have := allT_get h3 hj
        rw [show a * j + b = Nat.mul 2 a * (j / 2 - 1) + Nat.add (Nat.mul 2 a) b from ?_]
        · exact this
        · show a * j + b = 2 * a * (j / 2 - 1) + (2 * a + b)
          obtain ⟨m, hm⟩ : ∃ m, j = 2 * m + 2 := ⟨j / 2 - 1, by omega⟩
          subst hm
          rw [show (2 * m + 2) / 2 - 1 = m by omega, Nat.mul_add, ← Nat.mul_assoc, Nat.mul_comm a 2]
          omega

theorem all_get {α : Type} {p : Nat → α → Bool} {t : Tr α} {j : Nat} {x : α} (h : allT p t 1 0 = true) (hj : t.get j = some x) : p j x = true := by
  have := allT_get h hj
  simpa using this

def ifcD : TypeDesc → Bool
  | .interface _ => true
  | _ => false

def kdB : Kd → TypeDesc → Nat → Bool
  | .int k, .int k', n => kEq k k' && Nat.beq n 1
  | .str, .string, n => Nat.beq n 1
  | .bool, .bool, n => Nat.beq n 1
  | .ptr, .pointer _, n => Nat.beq n 1
  | .ifc, .interface _, n => Nat.beq n 1
  | .sl, .slice _, n => Nat.beq n 1
  | .mp, .map _ _, n => Nat.beq n 1
  | .fn, .func _ _ _, n => Nat.beq n 1
  | .one, d, n => !aggD d && !ifcD d && Nat.beq n 1
  | .agg k, d, n => aggD d && Nat.beq n k
  | _, _, _ => false

theorem kdB_ok {k : Kd} {d : TypeDesc} {n : Nat} (h : kdB k d n = true) : KdOk k d n := by
  cases k <;> cases d <;> simp [kdB, aggD, ifcD] at h <;> simp [KdOk, aggD] <;> first
    | exact h
    | exact ⟨(kEq_eq h.1).symm, h.2⟩
    | exact h.symm

def kndOne (P : Program) (t : Nat) (k : Kd) : Bool := match P.info? t, P.underlying t with
  | some i, some d => kdB k d i.size
  | _, _ => false

def fldRow (P : Program) (fs : List Field) : List (Nat × Nat × Bool) → Bool
  | [] => true
  | (off, n, ag) :: r => match fs with
    | fd :: fs => (match P.info? fd.type, P.underlying fd.type with
      | some i, some d => (Nat.beq n 0 || (Nat.beq fd.offset off && Nat.beq i.size n && (aggD d == ag)))
      | _, _ => false) && fldRow P fs r
    | [] => false

def fldOne (P : Program) (t : Nat) (l : List (Nat × Nat × Bool)) : Bool := match P.underlying t with
  | some (.struct fs) => fldRow P fs.toList l
  | _ => false

theorem fldRow_ok {P : Program} : ∀ {l : List (Nat × Nat × Bool)} {fs : List Field} {f off n : Nat} {ag : Bool}, fldRow P fs l = true → l[f]? = some (off, n, ag) → n ≠ 0 →
    ∃ fd i d, fs[f]? = some fd ∧ fd.offset = off ∧ P.info? fd.type = some i ∧ i.size = n ∧ P.underlying fd.type = some d ∧ aggD d = ag
  | [], _, _, _, _, _, _, h, _ => by simp at h
  | (o, m, g) :: r, [], _, _, _, _, h, _, _ => by simp [fldRow] at h
  | (o, m, g) :: r, fd :: fs, f, off, n, ag, h, hf, hn => by
    simp only [fldRow, Bool.and_eq_true] at h
    cases f with
    | zero =>
      simp only [List.getElem?_cons_zero, Option.some.injEq, Prod.mk.injEq] at hf
      obtain ⟨rfl, rfl, rfl⟩ := hf
      have h1 := h.1
      split at h1
      · rename_i i d hi hd
        simp only [Bool.or_eq_true, Bool.and_eq_true, beq_iff_eq] at h1
        rcases h1 with h1 | ⟨⟨h1, h2⟩, h3⟩
        · exact absurd (nat_beq h1) hn
        · exact ⟨fd, i, d, rfl, nat_beq h1, hi, nat_beq h2, hd, h3⟩
      · cases h1
    | succ f => simpa using fldRow_ok h.2 (by simpa using hf) hn

def slOne (P : Program) (t : Nat) : Nat × Nat × Nat → Bool
  | (es, e, b) => match P.underlying t, P.info? e with
    | some (.slice e'), some i => Nat.beq e' e && (Nat.beq i.size es && (!Nat.beq es 0 && (Nat.beq i.bytes b && (match i.zero with
      | some z => Nat.beq z.cells.size es
      | none => false))))
    | _, _ => false

def arrOne (P : Program) (t : Nat) : Nat × Nat × Nat × Bool → Bool
  | (n, es, e, ag) => match P.underlying t, P.info? e, P.underlying e with
    | some (.array n' e'), some i, some d => Nat.beq e' e && (Nat.beq n' n && (Nat.beq i.size es && (!Nat.beq es 0 && (aggD d == ag))))
    | _, _, _ => false

def mpOne (P : Program) (t : Nat) : Nat × Nat → Bool
  | (k, e) => match P.underlying t with
    | some (.map k' e') => Nat.beq k' k && Nat.beq e' e
    | _ => false

def zvB : V → Value → Bool
  | .int k n, .int k' m => kEq k k' && iEq n m
  | .bool a, .bool b => a == b
  | .bs [], .string ⟨⟨[]⟩⟩ => true
  | .nptr, .pointer none => true
  | .nsl, .slice none 0 0 => true
  | .nmap, .map none => true
  | .nfunc, .nilFunc => true
  | .niface, .nilIface => true
  | _, _ => false

theorem zvB_ok {v : V} {x : Value} (h : zvB v x = true) (L : Nat → Prop) (ρ : Nat → Loc) : rel L ρ v x := by
  unfold zvB at h
  split at h <;> first | (cases h; done) | skip
  · simp only [Bool.and_eq_true, iEq_iff, beq_iff_eq] at h
    simp only [rel]; rw [kEq_eq h.1, h.2]
  · rw [beq_iff_eq] at h; subst h; simp only [rel]
  · simp [rel, bytesV]
  · simp only [rel]
  · simp only [rel]
  · simp only [rel]
  · simp only [rel]
  · simp only [rel]

def zvsB : List V → List Value → Bool
  | [], [] => true
  | v :: vs, x :: xs => zvB v x && zvsB vs xs
  | _, _ => false

theorem zvsB_ok : ∀ {vs : List V} {xs : List Value}, zvsB vs xs = true → ∀ (L : Nat → Prop) (ρ : Nat → Loc), rels L ρ vs xs
  | [], [], _, L, ρ => rels_mk0
  | [], _ :: _, h, _, _ => by cases h
  | _ :: _, [], h, _, _ => by cases h
  | v :: vs, x :: xs, h, L, ρ => by
    simp only [zvsB, Bool.and_eq_true] at h
    exact rels_mk (zvB_ok h.1 L ρ) (zvsB_ok h.2 L ρ)

def zrOne (P : Program) (t : Nat) (l : List (Nat × V)) : Bool := match P.info? t with
  | some i => (match i.zero with
    | some z => zvsB (expand l) z.cells.toList && (match P.underlying t with
      | some d => (match d with
        | .struct fs => fs.toList.all fun f => (P.info? f.type).isSome
        | .array _ e => (P.info? e).isSome
        | _ => true) && (aggV z == aggD d)
      | none => false)
    | none => false)
  | none => false

def flFs (P : Program) : Nat → List Field → List Kd → Bool
  | _, [], [] => true
  | i, f :: fs, k :: ks => (!(f.name == "_")) && (Nat.beq f.offset i && ((match k, P.underlying f.type with
    | .int _, some (.int _) => true
    | .bool, some .bool => true
    | .str, some .string => true
    | _, _ => false) && flFs P (Nat.succ i) fs ks))
  | _, _, _ => false

theorem flFs_ok {P : Program} : ∀ {fs : List Field} {ks : List Kd} {i : Nat}, flFs P i fs ks = true → flatFs P i fs ks
  | [], [], _, _ => trivial
  | [], _ :: _, _, h => by cases h
  | _ :: _, [], _, h => by cases h
  | f :: fs, k :: ks, i, h => by
    simp only [flFs, Bool.and_eq_true] at h
    obtain ⟨h1, h2, h3, h4⟩ := h
    refine ⟨⟨by simpa using h1, nat_beq h2, ?_⟩, flFs_ok h4⟩
    split at h3
    · rename_i k' k2 hu; exact ⟨k2, hu⟩
    · rename_i hu; exact hu
    · rename_i hu; exact hu
    · cases h3

def flOne (P : Program) (t : Nat) (ks : List Kd) : Bool := match P.underlying t with
  | some (.struct fs) => !P.stoodInHeld t && (!P.eqGuardType P.depth t && flFs P 0 fs.toList ks)
  | _ => false

def nthF : List (Nat × Nat × Bool) → Nat → Option (Nat × Nat × Bool)
  | [], _ => none
  | x :: l, n => bif Nat.beq n (nat_lit 0) then some x else nthF l (Nat.sub n (nat_lit 1))

theorem nthF_eq : ∀ {l : List (Nat × Nat × Bool)} {n : Nat} {x}, nthF l n = some x → l[n]? = some x
  | [], _, _, h => by simp [nthF] at h
  | y :: l, n, x, h => by
    simp only [nthF] at h
    cases hb : Nat.beq n 0 with
    | true => rw [hb] at h; have := nat_beq hb; subst this; simpa using h
    | false =>
      rw [hb] at h
      have hn := nat_beq_ne hb
      obtain ⟨m, rfl⟩ : ∃ m, n = m + 1 := ⟨n - 1, by omega⟩
      simpa using nthF_eq (show nthF l (m + 1 - 1) = some x from h)

noncomputable section
def fldN (F : Tr (List (Nat × Nat × Bool))) (s f : Nat) : Option (Nat × Nat × Bool) := match F.get s with
  | some l => (match nthF l f with
    | some (o, n, g) => bif Nat.beq n (nat_lit 0) then none else some (o, n, g)
    | none => none)
  | none => none
def findT : List (String × Nat × Option Nat) → String → Option (Nat × Option Nat)
  | [], _ => none
  | (s, g, o) :: l, m => if s = m then some (g, o) else findT l m
def mtN (T : Tr (List (String × Nat × Option Nat))) (t : Nat) (m : String) : Option (Nat × Option Nat) := match T.get t with
  | some l => findT l m
  | none => none

theorem findT_mem : ∀ {l : List (String × Nat × Option Nat)} {m : String} {g : Nat} {o : Option Nat}, findT l m = some (g, o) → (m, g, o) ∈ l
  | [], _, _, _, h => by simp [findT] at h
  | (s, g', o') :: l, m, g, o, h => by
    simp only [findT] at h
    split at h
    · rename_i e; subst e; simp only [Option.some.injEq, Prod.mk.injEq] at h; obtain ⟨rfl, rfl⟩ := h; simp
    · simp [findT_mem h]

def ptrD : TypeDesc → Bool
  | .pointer _ => true
  | _ => false

def mtOne (P : Program) (t : Nat) : String × Nat × Option Nat → Bool
  | (m, g, o) => match P.info? t with
    | some i => (match i.methods.find? (·.name == m) with
      | some me => (match me.func with
        | some (g', pr) => Nat.beq g' g && (match o with
          | none => (match me.path.toList with
            | [] => (match P.underlying t with
              | some d => ptrD d == pr
              | none => false)
            | _ => false)
          | some off => pr && (match me.path.toList with
            | [st] => st.deref && (match P.underlying st.struct with
              | some (.struct fs) => (match fs[st.index]? with
                | some f => Nat.beq f.offset off && (match P.info? f.type, P.underlying f.type with
                  | some i, some d => !Nat.beq i.size 0 && !ptrD d
                  | _, _ => false)
                | none => false)
              | _ => false)
            | _ => false))
        | none => false)
      | none => false)
    | none => false

def fnOne (n : Nat) (i : Nat) (F : Func) : Bool := Nat.blt i n && ((!(F.name == "runtime.NumGoroutine")) && (match F.body with
  | some c => codeOk F.ntmps c
  | none => true))

def bodied (F : Func) : Option Func := match F.body with
  | some _ => some F
  | none => none

/-- The table, out of its tries. -/
def tbOf (K : Tr Kd) (F : Tr (List (Nat × Nat × Bool))) (Z : Tr (List (Nat × V))) (L : Tr (Nat × Nat × Nat)) (A : Tr (Nat × Nat × Nat × Bool)) (M : Tr (Nat × Nat)) (T : Tr (List (String × Nat × Option Nat))) (Fl : Tr (List Kd)) (Fn : Tr Func) (pu : Nat → List V → Option (List V)) : Tb :=
  { knd := K.get, fld := fldN F, sl := L.get, arr := A.get, mp := M.get, zr := Z.get, mt := mtN T, fn := Fn.get, flat := Fl.get, pure := pu }

variable {P : Program} {K : Tr Kd} {F : Tr (List (Nat × Nat × Bool))} {Z : Tr (List (Nat × V))} {L : Tr (Nat × Nat × Nat)} {A : Tr (Nat × Nat × Nat × Bool)} {M : Tr (Nat × Nat)} {T : Tr (List (String × Nat × Option Nat))} {Fl : Tr (List Kd)} {Fn : Tr Func} {pu : Nat → List V → Option (List V)}

theorem tyOk_of (hK : allT (kndOne P) K 1 0 = true) (hF : allT (fldOne P) F 1 0 = true) (hZ : allT (zrOne P) Z 1 0 = true) (hL : allT (slOne P) L 1 0 = true) (hA : allT (arrOne P) A 1 0 = true) (hM : allT (mpOne P) M 1 0 = true) (hFl : allT (flOne P) Fl 1 0 = true) : TyOk P (tbOf K F Z L A M T Fl Fn pu) := by
  refine ⟨fun t k h => ?_, fun s f off n ag h => ?_, fun t es e b h => ?_, fun t n es e ag h => ?_, fun t k e h => ?_, fun t l h => ?_, fun t ks h => ?_⟩
  · have := all_get hK h
    simp only [kndOne] at this
    split at this
    · exact ⟨_, _, ‹_›, ‹_›, kdB_ok this⟩
    · cases this
  · simp only [tbOf, fldN] at h
    split at h
    · rename_i l hl
      split at h
      · rename_i o m g hlf
        cases hb : Nat.beq m 0 with
        | true => rw [hb] at h; cases h
        | false =>
          rw [hb] at h
          simp only [cond_false, Option.some.injEq, Prod.mk.injEq] at h
          obtain ⟨rfl, rfl, rfl⟩ := h
          have hn := nat_beq_ne hb
          have := all_get hF hl
          simp only [fldOne] at this
          split at this
          · rename_i fs hu
            obtain ⟨fd, i, d, e1, e2, e3, e4, e5, e6⟩ := fldRow_ok this (nthF_eq hlf) hn
            exact ⟨_, fd, i, d, hu, by simpa using e1, e2, e3, e4, hn, e5, e6⟩
          · cases this
      · cases h
    · cases h
  · have := all_get hL h
    simp only [slOne] at this
    split at this
    · rename_i e' i hu hi
      simp only [Bool.and_eq_true, Bool.not_eq_true'] at this
      obtain ⟨h1, h2, h3, h4, h5⟩ := this
      have := nat_beq h1; subst this
      split at h5
      · exact ⟨i, _, hu, hi, nat_beq h2, nat_beq_ne h3, nat_beq h4, ‹_›, nat_beq h5⟩
      · cases h5
    · cases this
  · have := all_get hA h
    simp only [arrOne] at this
    split at this
    · rename_i n' e' i d hu hi hd
      simp only [Bool.and_eq_true, Bool.not_eq_true', beq_iff_eq] at this
      obtain ⟨h1, h2, h3, h4, h5⟩ := this
      have := nat_beq h1; subst this
      have := nat_beq h2; subst this
      exact ⟨i, d, hu, hi, nat_beq h3, nat_beq_ne h4, hd, h5⟩
    · cases this
  · have := all_get hM h
    simp only [mpOne] at this
    split at this
    · rename_i k' e' hu
      simp only [Bool.and_eq_true] at this
      rw [← nat_beq this.1, ← nat_beq this.2]; exact hu
    · cases this
  · have := all_get hZ h
    simp only [zrOne] at this
    split at this
    · rename_i i hi
      split at this
      · rename_i z hz
        simp only [Bool.and_eq_true] at this
        obtain ⟨h1, h2⟩ := this
        split at h2
        · rename_i d hd
          simp only [Bool.and_eq_true, beq_iff_eq] at h2
          refine ⟨i, z, d, z.cells.toList, hi, hz, hd, h2.2, by simp, zvsB_ok h1, fun fs e f hf => ?_, fun n e e1 => ?_⟩
          · subst e
            have h3 := h2.1
            simp only [List.all_eq_true] at h3
            exact h3 f (by simpa using hf)
          · subst e1
            exact h2.1
        · cases h2
      · cases this
    · cases this
  · have := all_get hFl h
    simp only [flOne] at this
    split at this
    · rename_i fs hu
      simp only [Bool.and_eq_true, Bool.not_eq_true'] at this
      exact ⟨fs, hu, this.1, this.2.1, flFs_ok this.2.2⟩
    · cases this

theorem fnOk_of {n : Nat} (hm : P.follows .mixedOrders = true) (hFn : allT (fnOne n) Fn 1 0 = true) (hlist : (List.range n).map Fn.get = P.funcs.toList.map bodied) (hT : allT (fun t l => l.all (mtOne P t)) T 1 0 = true) (hpu : ∀ g vs us, pu g vs = some us → PureOk P g vs us) : FnOk P (tbOf K F Z L A M T Fl Fn pu) := by
  refine ⟨hpu, fun g f h => ?_, fun t m g o h => ?_, hm⟩
  · have := all_get hFn h
    simp only [fnOne, Bool.and_eq_true, Nat.blt_eq] at this
    obtain ⟨h1, h2, h3⟩ := this
    refine ⟨?_, by simpa using h2, fun c hc => by rw [hc] at h3; exact h3⟩
    have h4 := congrArg (·[g]?) hlist
    simp only [List.getElem?_map, List.getElem?_range h1, Option.map_some] at h4
    have h' : Fn.get g = some f := h
    rw [h'] at h4
    have h5 : P.funcs.toList[g]?.map bodied = some (some f) := h4.symm
    cases hq : P.funcs.toList[g]? with
    | none => rw [hq] at h5; simp at h5
    | some f' =>
      rw [hq] at h5
      simp only [Option.map_some, Option.some.injEq] at h5
      unfold bodied at h5
      split at h5
      · cases h5; simpa using hq
      · cases h5
  · simp only [tbOf, mtN] at h
    split at h
    · rename_i l hl
      have h1 := all_get hT hl
      rw [List.all_eq_true] at h1
      have := h1 _ (findT_mem h)
      simp only [mtOne] at this
      split at this
      · rename_i i hi
        split at this
        · rename_i me hme
          split at this
          · rename_i g' pr hf
            simp only [Bool.and_eq_true] at this
            obtain ⟨h2, h3⟩ := this
            have := nat_beq h2; subst this
            refine ⟨i, me, pr, hi, hme, hf, ?_⟩
            cases o with
            | none =>
              simp only at h3 ⊢
              split at h3
              · rename_i hp
                refine ⟨by apply Array.ext'; simpa using hp, ?_⟩
                split at h3
                · rename_i d hd
                  rw [beq_iff_eq] at h3
                  cases pr with
                  | true => left; refine ⟨rfl, ?_⟩; cases d <;> simp only [ptrD] at h3 <;> first | cases h3; done | exact ⟨_, hd⟩
                  | false => right; refine ⟨rfl, d, hd, fun e he => ?_⟩; subst he; simp [ptrD] at h3
                · cases h3
              · cases h3
            | some off =>
              simp only [Bool.and_eq_true] at h3 ⊢
              obtain ⟨rfl, h3⟩ := h3
              split at h3
              · rename_i st hp
                simp only [Bool.and_eq_true] at h3
                obtain ⟨h4, h5⟩ := h3
                split at h5
                · rename_i fs hu
                  split at h5
                  · rename_i f hf2
                    simp only [Bool.and_eq_true] at h5
                    obtain ⟨h6, h7⟩ := h5
                    split at h7
                    · rename_i i2 d hi2 hd
                      simp only [Bool.and_eq_true, Bool.not_eq_true'] at h7
                      refine ⟨rfl, st, fs, f, i2, d, by apply Array.ext'; simpa using hp, h4, hu, hf2, nat_beq h6, hi2, nat_beq_ne h7.1, hd, fun e he => ?_⟩
                      subst he; simp [ptrD] at h7
                    · cases h7
                  · cases h5
                · cases h5
              · cases h3
          · cases this
        · cases this
      · cases this
    · cases h
end
end Go.Kn
