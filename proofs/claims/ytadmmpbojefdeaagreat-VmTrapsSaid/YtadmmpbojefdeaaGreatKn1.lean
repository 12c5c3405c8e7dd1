/-
  A small engine for proofs about Go functions: abstract values and objects under numbers, and what they say of a world. Conditions: none (definitions and lemmas over any program).
-/
import Derived.Tactics2
import Derived.Laws.Rows
import Derived.Laws.CopyRow
import Derived.Laws.Entries
import Derived.Laws.Cells
import Derived.KernelRfl
import GoSem.ClaimData
namespace Go.Kn
open Go

structure Loc where
  b : Nat
  base : Nat := 0
  cap : Nat := 0
  nil : Bool := false

inductive V where
  | bool (b : Bool)
  | int (k : IntKind) (n : Int)
  | bs (l : List Nat)
  | ptr (t : Nat) (off : Nat)
  | nptr
  | sl (t : Nat) (off len cap : Nat)
  | vw (t : Nat) (off len : Nat)
  | vec (t : Nat) (len : Nat)
  | nsl
  | agg (cs : List V)
  | tup (cs : List V)
  | iface (t : Nat) (v : V)
  | niface
  | func (f : Nat) (first captured : List V)
  | nfunc
  | map (t : Nat)
  | nmap
  | raw (x : Value)

def bytesV (l : List Nat) : Value := .string ⟨(l.map UInt8.ofNat).toArray⟩

mutual
def rel (L : Nat → Prop) (ρ : Nat → Loc) : V → Value → Prop
  | .bool b, x => x = .bool b
  | .int k n, x => x = .int k n
  | .bs l, x => x = bytesV l ∧ ∀ b ∈ l, b < 256
  | .ptr t off, x => L t ∧ x = .pointer (some ⟨(ρ t).b, (ρ t).base + off, none⟩)
  | .nptr, x => x = .pointer none
  | .sl t off len cap, x => L t ∧ x = .slice (some ⟨(ρ t).b, (ρ t).base + off, none⟩) len cap
  | .vw t off len, x => L t ∧ ∃ a cap, x = .slice a len cap ∧ len ≤ cap ∧ (0 < len → a = some ⟨(ρ t).b, (ρ t).base + off, none⟩)
  | .vec t len, x => L t ∧ ((ρ t).nil = true ∧ len = 0 ∧ x = .slice none 0 0 ∨
      (ρ t).nil = false ∧ len ≤ (ρ t).cap ∧ x = .slice (some ⟨(ρ t).b, (ρ t).base, none⟩) len (ρ t).cap)
  | .nsl, x => x = .slice none 0 0
  | .agg cs, x => ∃ xs : List Value, x = .agg xs.toArray ∧ rels L ρ cs xs
  | .tup cs, x => ∃ xs : List Value, x = .tuple xs.toArray ∧ rels L ρ cs xs
  | .iface t v, x => ∃ y, x = .iface t y ∧ rel L ρ v y
  | .niface, x => x = .nilIface
  | .func f first captured, x => ∃ xs ys : List Value, x = .func (.func f) xs.toArray ys.toArray ∧ rels L ρ first xs ∧ rels L ρ captured ys
  | .nfunc, x => x = .nilFunc
  | .map t, x => L t ∧ x = .map (some (ρ t).b)
  | .nmap, x => x = .map none
  | .raw y, x => x = y
def rels (L : Nat → Prop) (ρ : Nat → Loc) : List V → List Value → Prop
  | [], xs => xs = []
  | v :: vs, xs => ∃ x r, xs = x :: r ∧ rel L ρ v x ∧ rels L ρ vs r
end

def oneV : V → Bool
  | .agg _ | .tup _ | .raw _ => false
  | _ => true

section
variable {L L' : Nat → Prop} {ρ ρ' : Nat → Loc}

theorem oneV_one {v : V} {x : Value} (h : oneV v = true) (hr : rel L ρ v x) : x.oneCell' = true := by
  cases v with
  | vec t len => simp only [rel] at hr; rcases hr with ⟨_, ⟨_, _, rfl⟩ | ⟨_, _, rfl⟩⟩ <;> rfl
  | vw t off len => simp only [rel] at hr; obtain ⟨_, _, _, rfl, _⟩ := hr; rfl
  | func f p q => simp only [rel] at hr; obtain ⟨_, _, rfl, _⟩ := hr; rfl
  | iface t v => simp only [rel] at hr; obtain ⟨_, rfl, _⟩ := hr; rfl
  | agg cs => cases h
  | tup cs => cases h
  | raw x => cases h
  | bs l => simp only [rel] at hr; obtain ⟨rfl, _⟩ := hr; rfl
  | ptr t o => simp only [rel] at hr; obtain ⟨_, rfl⟩ := hr; rfl
  | sl t o l c => simp only [rel] at hr; obtain ⟨_, rfl⟩ := hr; rfl
  | map t => simp only [rel] at hr; obtain ⟨_, rfl⟩ := hr; rfl
  | _ => simp only [rel] at hr; subst hr; rfl

theorem rels_cons {v : V} {vs : List V} {xs : List Value} (h : rels L ρ (v :: vs) xs) : ∃ x r, xs = x :: r ∧ rel L ρ v x ∧ rels L ρ vs r := by simpa [rels] using h
theorem rels_nil {xs : List Value} (h : rels L ρ [] xs) : xs = [] := by simpa [rels] using h
theorem rels_mk {v : V} {vs : List V} {x : Value} {xs : List Value} (h : rel L ρ v x) (hs : rels L ρ vs xs) : rels L ρ (v :: vs) (x :: xs) := by simp only [rels]; exact ⟨x, xs, rfl, h, hs⟩
theorem rels_mk0 : rels L ρ [] [] := by simp [rels]

theorem rels_length : ∀ {vs : List V} {xs : List Value}, rels L ρ vs xs → vs.length = xs.length
  | [], xs, h => by simp [rels_nil h]
  | v :: vs, xs, h => by obtain ⟨x, r, rfl, _, h2⟩ := rels_cons h; simp [rels_length h2]

theorem rels_get : ∀ {vs : List V} {xs : List Value} {i : Nat} {v : V}, rels L ρ vs xs → vs[i]? = some v → ∃ x, xs[i]? = some x ∧ rel L ρ v x
  | [], _, _, _, _, hi => by simp at hi
  | u :: vs, xs, i, v, h, hi => by
    obtain ⟨x, r, rfl, h1, h2⟩ := rels_cons h
    cases i with
    | zero => simp at hi; subst hi; exact ⟨x, by simp, h1⟩
    | succ i => simpa using rels_get h2 (by simpa using hi)

theorem rels_append : ∀ {vs us : List V} {xs ys : List Value}, rels L ρ vs xs → rels L ρ us ys → rels L ρ (vs ++ us) (xs ++ ys)
  | [], us, xs, ys, h, h' => by rw [rels_nil h]; simpa using h'
  | v :: vs, us, xs, ys, h, h' => by
    obtain ⟨x, r, rfl, h1, h2⟩ := rels_cons h
    exact rels_mk h1 (rels_append h2 h')

theorem rels_take : ∀ (n : Nat) {vs : List V} {xs : List Value}, rels L ρ vs xs → rels L ρ (vs.take n) (xs.take n)
  | 0, _, _, _ => by simp [rels]
  | n + 1, [], xs, h => by simp [rels_nil h, rels]
  | n + 1, v :: vs, xs, h => by
    obtain ⟨x, r, rfl, h1, h2⟩ := rels_cons h
    exact rels_mk h1 (rels_take n h2)

theorem rels_drop : ∀ (n : Nat) {vs : List V} {xs : List Value}, rels L ρ vs xs → rels L ρ (vs.drop n) (xs.drop n)
  | 0, _, _, h => by simpa using h
  | n + 1, [], xs, h => by simp [rels_nil h, rels]
  | n + 1, v :: vs, xs, h => by
    obtain ⟨x, r, rfl, h1, h2⟩ := rels_cons h
    simpa using rels_drop n h2

theorem rels_set : ∀ {vs : List V} {xs : List Value} {v : V} {x : Value} (i : Nat), rels L ρ vs xs → rel L ρ v x → rels L ρ (vs.set i v) (xs.set i x)
  | [], xs, _, _, i, h, _ => by simp [rels_nil h, rels]
  | u :: vs, xs, v, x, i, h, hv => by
    obtain ⟨y, r, rfl, h1, h2⟩ := rels_cons h
    cases i with
    | zero => exact rels_mk hv h2
    | succ i => exact rels_mk h1 (rels_set i h2 hv)

theorem rels_replicate {v : V} {x : Value} (h : rel L ρ v x) : ∀ (n : Nat), rels L ρ (List.replicate n v) (List.replicate n x)
  | 0 => by simp [rels]
  | n + 1 => rels_mk h (rels_replicate h n)

/-- More names, and the old ones stand for what they stood for. -/
structure Ext (L : Nat → Prop) (ρ : Nat → Loc) (L' : Nat → Prop) (ρ' : Nat → Loc) : Prop where
  sub : ∀ k, L k → L' k
  eq : ∀ k, L k → ρ' k = ρ k

theorem Ext.refl (L : Nat → Prop) (ρ : Nat → Loc) : Ext L ρ L ρ := ⟨fun _ h => h, fun _ _ => rfl⟩
theorem Ext.trans {L2 : Nat → Prop} {ρ2 : Nat → Loc} (h : Ext L ρ L' ρ') (k : Ext L' ρ' L2 ρ2) : Ext L ρ L2 ρ2 :=
  ⟨fun i hi => k.sub i (h.sub i hi), fun i hi => (k.eq i (h.sub i hi)).trans (h.eq i hi)⟩

mutual
theorem rel_up (he : Ext L ρ L' ρ') : ∀ {v : V} {x : Value}, rel L ρ v x → rel L' ρ' v x
  | v, x, h => by
    cases v with
    | ptr t off => simp only [rel] at h ⊢; rw [he.eq t h.1]; exact ⟨he.sub _ h.1, h.2⟩
    | sl t off len cap => simp only [rel] at h ⊢; rw [he.eq t h.1]; exact ⟨he.sub _ h.1, h.2⟩
    | vw t off len => simp only [rel] at h ⊢; rw [he.eq t h.1]; exact ⟨he.sub _ h.1, h.2⟩
    | vec t len => simp only [rel] at h ⊢; rw [he.eq t h.1]; exact ⟨he.sub _ h.1, h.2⟩
    | map t => simp only [rel] at h ⊢; rw [he.eq t h.1]; exact ⟨he.sub _ h.1, h.2⟩
    | agg cs => simp only [rel] at h ⊢; obtain ⟨xs, rfl, hx⟩ := h; exact ⟨xs, rfl, rels_up he hx⟩
    | tup cs => simp only [rel] at h ⊢; obtain ⟨xs, rfl, hx⟩ := h; exact ⟨xs, rfl, rels_up he hx⟩
    | iface t v => simp only [rel] at h ⊢; obtain ⟨y, rfl, hy⟩ := h; exact ⟨y, rfl, rel_up he hy⟩
    | func f a b => simp only [rel] at h ⊢; obtain ⟨xs, ys, rfl, h1, h2⟩ := h; exact ⟨xs, ys, rfl, rels_up he h1, rels_up he h2⟩
    | _ => simpa only [rel] using h
theorem rels_up (he : Ext L ρ L' ρ') : ∀ {vs : List V} {xs : List Value}, rels L ρ vs xs → rels L' ρ' vs xs
  | [], xs, h => by simpa only [rels] using h
  | v :: vs, xs, h => by obtain ⟨x, r, rfl, h1, h2⟩ := rels_cons h; exact rels_mk (rel_up he h1) (rels_up he h2)
end
end

/-! Objects. -/
inductive BO where
  | o (ar : Option Nat) (cs : List V) (T : Nat)
  | mp (es : List (V × V × Nat)) (clock : Nat)
  | it (q : Nat) (since : Nat) (seen : List Nat) (stepped : Nat)

def BO.cs : BO → List V
  | .o _ cs _ => cs
  | _ => []

def BO.put : BO → List V → BO
  | .o a _ T, cs => .o a cs T
  | b, _ => b

def owns (lc : Loc) : BO → Prop
  | .o (some _) _ _ => lc.nil = false
  | _ => True

def ents (L : Nat → Prop) (ρ : Nat → Loc) : List (V × V × Nat) → List MapEntry → Prop
  | [], ms => ms = []
  | (k, v, b) :: es, ms => ∃ m r, ms = m :: r ∧ rel L ρ k m.key ∧ rel L ρ v m.val ∧ m.born = b ∧ ents L ρ es r

theorem ents_up {L L' : Nat → Prop} {ρ ρ' : Nat → Loc} (he : Ext L ρ L' ρ') : ∀ {es : List (V × V × Nat)} {ms : List MapEntry}, ents L ρ es ms → ents L' ρ' es ms
  | [], ms, h => by simpa only [ents] using h
  | (k, v, b) :: es, ms, h => by
    simp only [ents] at h ⊢
    obtain ⟨m, r, rfl, h1, h2, h3, h4⟩ := h
    exact ⟨m, r, rfl, rel_up he h1, rel_up he h2, h3, ents_up he h4⟩

/-- None of so many cells is frozen. -/
def Thaw (f : Nat × Nat) (n : Nat) : Prop := ∀ i, i < n → ¬ (f.1 ≤ i ∧ i < f.2)

theorem Thaw.none (n : Nat) : Thaw (0, 0) n := fun i _ h => by simp at h

def ObjSat (L : Nat → Prop) (ρ : Nat → Loc) (lc : Loc) (h : Array Obj) : BO → Prop
  | .o none cs T => ∃ (xs : List Value) (f : Nat × Nat), h[lc.b]? = some (.cells xs.toArray T f) ∧ Thaw f xs.length ∧ lc.base = 0 ∧ rels L ρ cs xs
  | .o (some es) cs T => lc.nil = true ∧ cs = [] ∨
      lc.nil = false ∧ ∃ (xs ys zs : List Value) (f : Nat × Nat), h[lc.b]? = some (.cells (xs ++ ys ++ zs).toArray T f) ∧ Thaw f (xs ++ ys ++ zs).length ∧ xs.length = lc.base ∧
        rels L ρ cs ys ∧ xs.length + lc.cap * es ≤ (xs ++ ys ++ zs).length ∧ ys.length ≤ lc.cap * es
  | .mp es clock => ∃ ms : List MapEntry, h[lc.b]? = some (.map ms.toArray clock) ∧ ents L ρ es ms
  | .it q since seen stepped => L q ∧ lc.base = 0 ∧ h[lc.b]? = some (.mapIter (some (ρ q).b) since seen.toArray stepped)

structure Sat (L : Nat → Prop) (ρ : Nat → Loc) (H : Nat → Option BO) (fr : Nat → Option Obj) (h : Array Obj) : Prop where
  obj : ∀ t o, H t = some o → ObjSat L ρ (ρ t) h o
  inj : ∀ t t' o o', H t = some o → H t' = some o' → owns (ρ t) o → owns (ρ t') o' → (ρ t).b = (ρ t').b → t = t'
  frm : ∀ b o, fr b = some o → h[b]? = some o
  dis : ∀ t o, H t = some o → owns (ρ t) o → fr (ρ t).b = none
  live : ∀ k o, H k = some o → L k

section
variable {L L' : Nat → Prop} {ρ ρ' : Nat → Loc} {H : Nat → Option BO} {fr : Nat → Option Obj} {h h' : Array Obj}

theorem ObjSat.block {lc : Loc} {o : BO} (hs : ObjSat L ρ lc h o) (ho : owns lc o) : lc.b < h.size := by
  cases o with
  | o a cs T =>
    cases a with
    | none => obtain ⟨xs, f, hx, _⟩ := hs; exact (Array.getElem?_eq_some_iff.1 hx).1
    | some es =>
      rcases hs with ⟨h1, _⟩ | ⟨_, xs, ys, zs, f, hx, _⟩
      · simp [owns] at ho; simp [ho] at h1
      · exact (Array.getElem?_eq_some_iff.1 hx).1
  | mp es c => obtain ⟨ms, hx, _⟩ := hs; exact (Array.getElem?_eq_some_iff.1 hx).1
  | it q s t u => exact (Array.getElem?_eq_some_iff.1 hs.2.2).1

/-- An object stands as it did where its block does and the values that it names stand alike. -/
theorem ObjSat.keep {lc : Loc} {o : BO} (hs : ObjSat L ρ lc h o) (he : Ext L ρ L' ρ') (hb : owns lc o → h'[lc.b]? = h[lc.b]?) : ObjSat L' ρ' lc h' o := by
  cases o with
  | o a cs T =>
    cases a with
    | none => obtain ⟨xs, f, hx, hf, h0, hr⟩ := hs; exact ⟨xs, f, by rw [hb trivial]; exact hx, hf, h0, rels_up he hr⟩
    | some es =>
      rcases hs with hn | ⟨hn, xs, ys, zs, f, hx, hf, h1, hr, h2⟩
      · exact .inl hn
      · exact .inr ⟨hn, xs, ys, zs, f, by rw [hb hn]; exact hx, hf, h1, rels_up he hr, h2⟩
  | mp es c => obtain ⟨ms, hx, hr⟩ := hs; exact ⟨ms, by rw [hb trivial]; exact hx, ents_up he hr⟩
  | it q s t u => exact ⟨he.sub _ hs.1, hs.2.1, by rw [hb trivial, he.eq q hs.1]; exact hs.2.2⟩

def updT (H : Nat → Option BO) (t : Nat) (o : BO) : Nat → Option BO := fun t' => if t' = t then some o else H t'
def delT (H : Nat → Option BO) (t : Nat) : Nat → Option BO := fun t' => if t' = t then none else H t'

theorem updT_same (H : Nat → Option BO) (t : Nat) (o : BO) : updT H t o t = some o := by simp [updT]
theorem updT_other (H : Nat → Option BO) (t : Nat) (o : BO) {t' : Nat} (h : t' ≠ t) : updT H t o t' = H t' := by simp [updT, h]

/-- Fewer objects. -/
theorem Sat.less (hs : Sat L ρ H fr h) {H' : Nat → Option BO} (hl : ∀ t o, H' t = some o → H t = some o) : Sat L ρ H' fr h :=
  ⟨fun t o ht => hs.obj t o (hl t o ht), fun t t' o o' a b => hs.inj t t' o o' (hl _ _ a) (hl _ _ b), hs.frm, fun t o ht => hs.dis t o (hl _ _ ht), fun k o hk => hs.live k o (hl _ _ hk)⟩

theorem Sat.del (hs : Sat L ρ H fr h) (t : Nat) : Sat L ρ (delT H t) fr h :=
  hs.less fun t' o h' => by simp only [delT] at h'; split at h' <;> first | (cases h'; done) | exact h'

/-- A cell that is known. -/
theorem Sat.cell {w : World} (hs : Sat L ρ H fr w.heap) {t : Nat} {o : BO} (hH : H t = some o)
    {off : Nat} {v : V} (hv : o.cs[off]? = some v) : ∃ x, w.cell? ⟨(ρ t).b, (ρ t).base + off, none⟩ = some x ∧ rel L ρ v x ∧ w.frozen? ⟨(ρ t).b, (ρ t).base + off, none⟩ = false := by
  have ho := hs.obj t o hH
  cases o with
  | o a cs T =>
    cases a with
    | none =>
      obtain ⟨xs, ⟨lo, hi⟩, hx, hf, h0, hr⟩ := ho
      obtain ⟨x, hx2, hrel⟩ := rels_get hr hv
      refine ⟨x, by simp [World.cell?, hx, h0, hx2], hrel, ?_⟩
      have := hf off (List.getElem?_eq_some_iff.1 hx2).1
      simp only [World.frozen?, hx, h0, Nat.zero_add]
      simpa using this
    | some es =>
      rcases ho with ⟨_, hn⟩ | ⟨_, xs, ys, zs, ⟨lo, hi⟩, hx, hf, h1, hr, _⟩
      · subst hn; simp [BO.cs] at hv
      · obtain ⟨x, hx2, hrel⟩ := rels_get hr hv
        have hlt : off < ys.length := (List.getElem?_eq_some_iff.1 hx2).1
        have hfz : w.frozen? ⟨(ρ t).b, (ρ t).base + off, none⟩ = false := by
          have := hf ((ρ t).base + off) (by simp; omega)
          simp only [World.frozen?, hx]
          simpa using this
        refine ⟨x, ?_, hrel, hfz⟩
        simp only [World.cell?, hx]
        simp only [Option.isSome_none, Bool.false_eq_true, if_false, List.getElem?_toArray]
        rw [← h1, List.append_assoc, List.getElem?_append_right (by omega), List.getElem?_append_left (by omega), Nat.add_sub_cancel_left]
        exact hx2
  | mp es c => simp [BO.cs] at hv
  | it q s t u => simp [BO.cs] at hv

theorem heap_setCell (w : World) (b i : Nat) (cs : Array Value) (t : TypeId) (f : Nat × Nat) (v : Value) (hg : w.heap[b]? = some (.cells cs t f)) :
    (w.setCell ⟨b, i, none⟩ v).heap[b]? = some (.cells (cs.setIfInBounds i v) t f) := by
  simp [World.setCell, Array.getElem?_modify, hg]

theorem heap_setCell_ne (w : World) (b i : Nat) (v : Value) {k : Nat} (h : k ≠ b) : (w.setCell ⟨b, i, none⟩ v).heap[k]? = w.heap[k]? := by
  simp only [World.setCell, Array.getElem?_modify]
  rw [if_neg (by simpa using fun e => h e.symm)]

/-- One object is another one, in a block that it owns. -/
theorem Sat.upd {t : Nat} {o o' : BO} (hs : Sat L ρ H fr h) (hH : H t = some o) (hown : owns (ρ t) o) (hown' : owns (ρ t) o' → owns (ρ t) o)
    (ho' : ObjSat L ρ (ρ t) h' o') (hne : ∀ b, b ≠ (ρ t).b → h'[b]? = h[b]?) : Sat L ρ (updT H t o') fr h' := by
  refine ⟨?_, ?_, ?_, ?_, ?_⟩
  · intro t' p h'
    by_cases he : t' = t
    · subst he; rw [updT_same] at h'; cases h'; exact ho'
    · rw [updT_other _ _ _ he] at h'
      refine (hs.obj t' p h').keep (Ext.refl _ _) (fun hw => hne _ (fun e => he (hs.inj _ _ _ _ h' hH hw hown e)))
  · intro t1 t2 o1 o2 h1 h2 w1 w2 e
    have conv : ∀ t' p, updT H t o' t' = some p → owns (ρ t') p → ∃ q, H t' = some q ∧ owns (ρ t') q := by
      intro t' p h' hw
      by_cases he : t' = t
      · subst he; rw [updT_same] at h'; cases h'; exact ⟨o, hH, hown' hw⟩
      · rw [updT_other _ _ _ he] at h'; exact ⟨p, h', hw⟩
    obtain ⟨p, hp, hp'⟩ := conv _ _ h1 w1
    obtain ⟨q, hq, hq'⟩ := conv _ _ h2 w2
    exact hs.inj _ _ _ _ hp hq hp' hq' e
  · intro b p hb
    have hn : b ≠ (ρ t).b := fun e => by have := hs.dis t o hH hown; rw [← e] at this; rw [this] at hb; cases hb
    rw [hne _ hn]
    exact hs.frm b p hb
  · intro t' p h' hw
    by_cases he : t' = t
    · subst he; exact hs.dis _ _ hH hown
    · rw [updT_other _ _ _ he] at h'; exact hs.dis _ _ h' hw
  · intro k p hk
    by_cases he : k = t
    · subst he; exact hs.live _ _ hH
    · rw [updT_other _ _ _ he] at hk; exact hs.live k p hk

theorem Sat.owns_cs (hs : Sat L ρ H fr h) {t : Nat} {o : BO} (hH : H t = some o) {off : Nat} (hlt : off < o.cs.length) : owns (ρ t) o := by
  have ho := hs.obj t o hH
  cases o with
  | o a cs T =>
    cases a with
    | none => trivial
    | some es =>
      rcases ho with ⟨_, hn⟩ | ⟨hn, _⟩
      · subst hn; simp [BO.cs] at hlt
      · exact hn
  | mp => trivial
  | it => trivial

theorem Sat.store {w : World} (hs : Sat L ρ H fr w.heap) {t : Nat} {o : BO} (hH : H t = some o)
    {off : Nat} {v : V} {x : Value} (hlt : off < o.cs.length) (hv : rel L ρ v x) :
    Sat L ρ (updT H t (o.put (o.cs.set off v))) fr (w.setCell ⟨(ρ t).b, (ρ t).base + off, none⟩ x).heap := by
  have hown := hs.owns_cs hH hlt
  have ho := hs.obj t o hH
  refine hs.upd hH hown (fun hw => ?_) ?_ (fun b hb => heap_setCell_ne _ _ _ _ hb)
  · cases o with
    | o a cs T => cases a <;> exact hw
    | mp => exact hw
    | it => exact hw
  · cases o with
    | o a cs T =>
      cases a with
      | none =>
        obtain ⟨xs, f, hx, hf, h0, hr⟩ := ho
        refine ⟨xs.set off x, f, ?_, by simpa using hf, h0, rels_set off hr hv⟩
        rw [heap_setCell _ _ _ _ _ _ _ hx]
        simp [h0]
      | some es =>
        rcases ho with ⟨_, hn⟩ | ⟨hn, xs, ys, zs, f, hx, hf, h1, hr, h2, h3⟩
        · subst hn; simp [BO.cs] at hlt
        · refine .inr ⟨hn, xs, ys.set off x, zs, f, ?_, by simpa using hf, h1, rels_set off hr hv, by simpa using h2, by simpa using h3⟩
          have hl : off < ys.length := by have := rels_length hr; simp [BO.cs] at hlt; omega
          rw [heap_setCell _ _ _ _ _ _ _ hx]
          simp only [List.setIfInBounds_toArray, Option.some.injEq, Obj.cells.injEq, and_true]
          rw [← h1, List.append_assoc, List.append_assoc, List.set_append_right _ _ (by omega), Nat.add_sub_cancel_left, List.set_append_left _ _ hl]
    | mp => simp [BO.cs] at hlt
    | it => simp [BO.cs] at hlt

/-- A new block, under a new number. -/
def updρ (ρ : Nat → Loc) (k : Nat) (lc : Loc) : Nat → Loc := fun j => if j = k then lc else ρ j

theorem updρ_same (ρ : Nat → Loc) (k : Nat) (lc : Loc) : updρ ρ k lc k = lc := by simp [updρ]
theorem updρ_ext {k : Nat} (hk : ¬ L k) (lc : Loc) : Ext L ρ (fun j => L j ∨ j = k) (updρ ρ k lc) :=
  ⟨fun _ h => .inl h, fun j hj => by have : ¬ j = k := fun e => hk (e ▸ hj); simp [updρ, this]⟩

theorem Sat.lt (hs : Sat L ρ H fr h) {t : Nat} {o : BO} (hH : H t = some o) (ho : owns (ρ t) o) : (ρ t).b < h.size :=
  (hs.obj t o hH).block ho

/-- The heap has grown: all stays. -/
theorem Sat.grow (hs : Sat L ρ H fr h) (hg : ∀ b, b < h.size → h'[b]? = h[b]?) : Sat L ρ H fr h' := by
  refine ⟨fun t o hH => ?_, hs.inj, fun b o hb => ?_, hs.dis, hs.live⟩
  · exact (hs.obj t o hH).keep (Ext.refl _ _) (fun hw => hg _ (hs.lt hH hw))
  · have := hs.frm b o hb
    rw [hg b (Array.getElem?_eq_some_iff.1 this).1]; exact this

/-- A new object, in a block that nothing else owns. -/
theorem Sat.add (hs : Sat L ρ H fr h) (k0 : Nat) (hk0 : ¬ L k0) (lc : Loc) (o : BO)
    (hb : owns lc o → fr lc.b = none ∧ ∀ t p, H t = some p → owns (ρ t) p → (ρ t).b ≠ lc.b) (ho : ObjSat L ρ lc h o) : Sat (fun k => L k ∨ k = k0) (updρ ρ k0 lc) (updT H k0 o) fr h := by
  have hx : Ext L ρ (fun j => L j ∨ j = k0) (updρ ρ k0 lc) := updρ_ext hk0 lc
  have hold : ∀ t o', t ≠ k0 → updT H k0 o t = some o' → H t = some o' ∧ updρ ρ k0 lc t = ρ t := by
    intro t o' hne h1
    rw [updT_other _ _ _ hne] at h1
    exact ⟨h1, hx.eq t (hs.live t o' h1)⟩
  refine ⟨?_, ?_, hs.frm, ?_, ?_⟩
  · intro t o' h1
    by_cases he : t = k0
    · subst he; rw [updT_same] at h1; cases h1; rw [updρ_same]
      exact ho.keep hx (fun _ => rfl)
    · obtain ⟨h2, h3⟩ := hold t o' he h1
      rw [h3]
      exact (hs.obj t o' h2).keep hx (fun _ => rfl)
  · intro t1 t2 o1 o2 h1 h2 w1 w2 e
    by_cases e1 : t1 = k0 <;> by_cases e2 : t2 = k0
    · rw [e1, e2]
    · exfalso
      subst e1; rw [updT_same] at h1; cases h1
      obtain ⟨h3, h4⟩ := hold t2 o2 e2 h2
      rw [h4] at w2 e; rw [updρ_same] at w1 e
      exact (hb w1).2 t2 o2 h3 w2 e.symm
    · exfalso
      subst e2; rw [updT_same] at h2; cases h2
      obtain ⟨h3, h4⟩ := hold t1 o1 e1 h1
      rw [h4] at w1 e; rw [updρ_same] at w2 e
      exact (hb w2).2 t1 o1 h3 w1 e
    · obtain ⟨h3, h4⟩ := hold t1 o1 e1 h1
      obtain ⟨h5, h6⟩ := hold t2 o2 e2 h2
      rw [h4] at w1 e; rw [h6] at w2 e
      exact hs.inj _ _ _ _ h3 h5 w1 w2 e
  · intro t o' h1 w1
    by_cases he : t = k0
    · subst he; rw [updT_same] at h1; cases h1; rw [updρ_same] at w1 ⊢
      exact (hb w1).1
    · obtain ⟨h2, h3⟩ := hold t o' he h1
      rw [h3] at w1 ⊢; exact hs.dis t o' h2 w1
  · intro k p hk
    by_cases he : k = k0
    · exact .inr he
    · exact .inl (hs.live k p (hold k p he hk).1)

theorem Sat.alloc (hs : Sat L ρ H fr h) (k0 : Nat) (hk0 : ¬ L k0) (lc : Loc) (o : BO)
    (hg : ∀ b, b < h.size → h'[b]? = h[b]?) (hb : owns lc o → h.size ≤ lc.b) (ho : ObjSat L ρ lc h' o) : Sat (fun k => L k ∨ k = k0) (updρ ρ k0 lc) (updT H k0 o) fr h' := by
  refine (hs.grow hg).add k0 hk0 lc o (fun hw => ⟨?_, fun t p hp hw' e => ?_⟩) ho
  · have := hb hw
    cases hf : fr lc.b with
    | none => rfl
    | some ob => have := hs.frm _ _ hf; have := (Array.getElem?_eq_some_iff.1 this).1; omega
  · have := hs.lt hp hw'; have := hb hw; omega
end
end Go.Kn
