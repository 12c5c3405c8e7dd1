/-
  The engine is right: regions whose order is open (1): sets, states. Conditions: none.
-/
import Derived.Test.YtadmmpbojefdeaaGreatKn19
namespace Go.Kn
open Go
variable {R : Type} {r : R}

def bit (m i : Nat) : Prop := inMask m i = true

theorem inMask_testBit (m i : Nat) : inMask m i = m.testBit i := by
  unfold inMask
  show Nat.beq ((m >>> i) &&& 1) 1 = m.testBit i
  rw [Nat.testBit_eq_decide_div_mod_eq, nat_beq_dec]
  have : (m >>> i) &&& 1 = m / 2 ^ i % 2 := by
    rw [Nat.and_one_is_mod, Nat.shiftRight_eq_div_pow]
  rw [this]

theorem bit_zero (i : Nat) : ¬ bit 0 i := by unfold bit; rw [inMask_testBit]; simp
theorem bit_or (a b i : Nat) : bit (Nat.lor a b) i ↔ bit a i ∨ bit b i := by
  unfold bit; simp only [inMask_testBit]
  show (a ||| b).testBit i = true ↔ _
  rw [Nat.testBit_or]; simp
theorem bit_one (j i : Nat) : bit (Nat.shiftLeft 1 j) i ↔ i = j := by
  unfold bit; rw [inMask_testBit]
  show (1 <<< j).testBit i = true ↔ _
  rw [Nat.one_shiftLeft, Nat.testBit_two_pow]
  simp [eq_comm]
theorem subMask_iff (a b : Nat) : subMask a b = true ↔ ∀ i, bit a i → bit b i := by
  unfold subMask bit
  simp only [inMask_testBit]
  show Nat.beq (a &&& b) a = true ↔ _
  rw [nat_beq_dec, decide_eq_true_eq]
  constructor
  · intro h i hi
    have := congrArg (Nat.testBit · i) h
    simp only [Nat.testBit_and] at this
    rw [hi] at this
    simpa using this
  · intro h
    apply Nat.eq_of_testBit_eq
    intro i
    rw [Nat.testBit_and]
    cases ha : a.testBit i with
    | false => rfl
    | true => rw [h i ha]; rfl

/-- A set is closed under what its operations wait for. -/
def Closed (ops : List Oper) (S : Nat → Prop) : Prop := ∀ i o, S i → ops[i]? = some o → ∀ j ∈ edgeOn o, S j

structure DoOk (ops : List Oper) (d : DO) : Prop where
  at_ : ops[d.i]? = some d.o
  war : d.war = false → asg d.o.op = true → ∀ i oi t, ops[i]? = some oi → i ≤ d.i → d.o.dst = some t → t ∉ slotsOf ops oi
  on : ∀ j, bit d.on j ↔ j ∈ edgeOn d.o
  anc : ∀ S, Closed ops S → (∀ j ∈ edgeOn d.o, S j) → ∀ j, bit d.anc j → S j

theorem maskOn_some : ∀ {es : List Edge} {m : Nat} {κ : Nat → Option R}, maskOn es m κ = some r → ∃ m', κ m' = some r ∧ ∀ j, bit m' j ↔ bit m j ∨ j ∈ (es.filter (Region.binds .any)).map (·.on)
  | [], m, κ, h => ⟨m, h, fun j => by simp⟩
  | e :: es, m, κ, h => by
    simp only [maskOn] at h
    cases hb : Region.binds .any e with
    | true =>
      rw [hb] at h
      obtain ⟨m', h1, h2⟩ := maskOn_some (show maskOn es _ κ = some r from h)
      refine ⟨m', h1, fun j => ?_⟩
      rw [h2, bit_or, bit_one]
      simp only [List.filter_cons, hb, if_true, List.map_cons, List.mem_cons]
      constructor
      · rintro ((h | h) | h)
        · exact .inl h
        · exact .inr (.inl h)
        · exact .inr (.inr h)
      · rintro (h | h | h)
        · exact .inl (.inl h)
        · exact .inl (.inr h)
        · exact .inr h
    | false =>
      rw [hb] at h
      obtain ⟨m', h1, h2⟩ := maskOn_some (show maskOn es _ κ = some r from h)
      exact ⟨m', h1, fun j => by rw [h2]; simp [List.filter_cons, hb]⟩

/-- The masks that have been reckoned. -/
def SeenOk (ops : List Oper) (seen : List (Nat × Nat)) : Prop := ∀ p ∈ seen, ∃ o, ops[p.1]? = some o ∧ ∀ S, Closed ops S → (∀ j ∈ edgeOn o, S j) → ∀ j, bit p.2 j → S j

theorem find_some {seen : List (Nat × Nat)} : ∀ {j : Nat} {κ : Nat → Option R}, ancOf.find seen j κ = some r → ∃ a, (j, a) ∈ seen ∧ κ a = some r := by
  induction seen with
  | nil => intro j κ h; simp [ancOf.find] at h
  | cons p seen ih =>
    obtain ⟨i, a⟩ := p
    intro j κ h
    simp only [ancOf.find] at h
    cases hb : Nat.beq i j with
    | true => rw [hb] at h; have := nat_beq hb; subst this; exact ⟨a, by simp, h⟩
    | false => rw [hb] at h; obtain ⟨a', h1, h2⟩ := ih (show ancOf.find seen j κ = some r from h); exact ⟨a', by simp [h1], h2⟩

theorem ancOf_some {ops : List Oper} {seen : List (Nat × Nat)} (hs : SeenOk ops seen) : ∀ {es : List Edge} {m : Nat} {κ : Nat → Option R}, ancOf seen es m κ = some r → ∃ m', κ m' = some r ∧ ∀ S, Closed ops S → (∀ j, bit m j → S j) → (∀ j ∈ (es.filter (Region.binds .any)).map (·.on), S j) → ∀ j, bit m' j → S j
  | [], m, κ, h => ⟨m, h, fun S _ hm _ => hm⟩
  | e :: es, m, κ, h => by
    simp only [ancOf] at h
    cases hb : Region.binds .any e with
    | true =>
      rw [hb] at h
      obtain ⟨a, h1, h2⟩ := find_some (show ancOf.find seen e.on _ = some r from h)
      obtain ⟨m', h3, h4⟩ := ancOf_some hs h2
      refine ⟨m', h3, fun S hc hm he => h4 S hc (fun j hj => ?_) (fun j hj => he j (by simp only [List.filter_cons, hb, if_true, List.map_cons, List.mem_cons]; exact .inr hj))⟩
      have heon : S e.on := he e.on (by simp only [List.filter_cons, hb, if_true, List.map_cons, List.mem_cons]; exact .inl trivial)
      rw [bit_or, bit_or, bit_one] at hj
      rcases hj with (hj | hj) | hj
      · exact hm j hj
      · obtain ⟨o, ho, hp⟩ := hs _ h1
        exact hp S hc (hc e.on o heon ho) j hj
      · subst hj; exact heon
    | false =>
      rw [hb] at h
      obtain ⟨m', h3, h4⟩ := ancOf_some hs (show ancOf seen es m κ = some r from h)
      exact ⟨m', h3, fun S hc hm he => h4 S hc hm (fun j hj => he j (by simpa [List.filter_cons, hb] using hj))⟩

theorem memN_iff {d : Nat} : ∀ {l : List Nat}, memN d l = false → d ∉ l
  | [], _ => by simp
  | a :: l, h => by
    simp only [memN, Bool.or_eq_false_iff] at h
    simp only [List.mem_cons, not_or]
    exact ⟨fun e => nat_beq_ne h.1 e.symm, memN_iff h.2⟩

theorem reads_iff {ops : List Oper} {d : Nat} : ∀ {l : List Oper}, reads ops d l = false → ∀ o ∈ l, d ∉ slotsOf ops o
  | [], _ => by simp
  | a :: l, h => by
    simp only [reads, Bool.or_eq_false_iff] at h
    intro o ho
    simp only [List.mem_cons] at ho
    rcases ho with rfl | ho
    · exact memN_iff h.1
    · exact reads_iff h.2 o ho

theorem dosK_some {ops : List Oper} : ∀ {l pre : List Oper} {i : Nat} {seen : List (Nat × Nat)} {κ : List DO → Option R}, dosK ops pre i seen l κ = some r → ops.drop i = l → (∀ j oj, j < i → ops[j]? = some oj → oj ∈ pre) → SeenOk ops seen → ∃ ds, κ ds = some r ∧ (∀ d ∈ ds, DoOk ops d ∧ i ≤ d.i) ∧ (ds.map (·.i)).Nodup ∧ ∀ j, i ≤ j → j < ops.length → ∃ d ∈ ds, d.i = j
  | [], pre, i, seen, κ, h, hd, hpre, hs => ⟨[], h, by simp, by simp, fun j h1 h2 => by
    have := congrArg List.length hd
    simp at this; omega⟩
  | o :: l, pre, i, seen, κ, h, hd, hpre, hs => by
    simp only [dosK] at h
    obtain ⟨on, h1, h2⟩ := maskOn_some h
    obtain ⟨anc, h3, h4⟩ := ancOf_some hs h1
    rw [natK_eq] at h3
    have ho : ops[i]? = some o := by
      have := congrArg (·[0]?) hd
      simpa using this
    have hd' : ops.drop (i + 1) = l := by
      have := congrArg (List.drop 1) hd
      simpa [List.drop_drop] using this
    have ha : ∀ S, Closed ops S → (∀ j ∈ edgeOn o, S j) → ∀ j, bit anc j → S j := fun S hc he => h4 S hc (fun j hj => absurd hj (bit_zero j)) he
    have hon : ∀ j, bit on j ↔ j ∈ edgeOn o := fun j => by
      rw [h2]
      exact ⟨fun h => h.resolve_left (bit_zero j), .inr⟩
    obtain ⟨ds, h5, h6, h8, h7⟩ := dosK_some h3 hd' (fun j oj hj hoj => by
      by_cases e : j = i
      · subst e; rw [ho] at hoj; cases hoj; simp
      · simp [hpre j oj (by omega) hoj]) (fun p hp => by
      simp only [List.mem_cons] at hp
      rcases hp with rfl | hp
      · exact ⟨o, ho, ha⟩
      · exact hs p hp)
    obtain ⟨wr, hwr, h5⟩ : ∃ wr, warB ops pre o = wr ∧ κ (⟨i, o, on, anc, wr⟩ :: ds) = some r := by
      split at h5
      · exact ⟨true, ‹_›, h5⟩
      · exact ⟨false, ‹_›, h5⟩
    refine ⟨⟨i, o, on, anc, wr⟩ :: ds, h5, fun d hd => ?_, ?_, fun j hj hl => ?_⟩
    rotate_left
    · rw [List.map_cons, List.nodup_cons]
      refine ⟨fun hm => ?_, h8⟩
      simp only [List.mem_map] at hm
      obtain ⟨d, hd, e⟩ := hm
      have := (h6 d hd).2
      omega
    rotate_left
    · simp only [List.mem_cons] at hd
      rcases hd with rfl | hd
      · refine ⟨⟨ho, fun hw ha j oj t hoj hj ht => ?_, hon, ha⟩, Nat.le_refl _⟩
        have hw : wr = false := hw
        have ht : o.dst = some t := ht
        have hj : j ≤ i := hj
        subst hw
        unfold warB at hwr
        rw [show asg o.op = true from ha, ht] at hwr
        refine reads_iff hwr oj ?_
        by_cases e : j = i
        · subst e; rw [ho] at hoj; cases hoj; simp
        · simp [hpre j oj (by omega) hoj]
      · exact ⟨(h6 d hd).1, Nat.le_of_succ_le (h6 d hd).2⟩
    · by_cases hji : j = i
      · subst hji; exact ⟨⟨j, o, on, anc, wr⟩, by simp, rfl⟩
      · obtain ⟨d, hd, e⟩ := h7 j (by omega) hl
        exact ⟨d, by simp [hd], e⟩

/-! What the shape of a region is good for. -/
structure DepOk (ops : List Oper) : Prop where
  looks : ∀ (i j : Nat) (oi oj : Oper) (d : Nat), ops[i]? = some oi → ops[j]? = some oj → oj.dst = some d → d ∈ slotsOf ops oi → (i ≠ j ∧ j ∈ edgeOn oi) ∨ (asg oj.op = true ∧ i ∈ edgeOn oj)
  dst : ∀ (i j : Nat) (oi oj : Oper) (d : Nat), ops[i]? = some oi → ops[j]? = some oj → oj.dst = some d → i ≠ j → oi.dst ≠ some d

theorem depOk_ok {ops : List Oper} (h : depOk ops = true) : DepOk ops := by
  have key : ∀ (i j : Nat) (oi oj : Oper) (d : Nat), ops[i]? = some oi → ops[j]? = some oj → oj.dst = some d → (!(slotsOf ops oi).contains d || (i != j && (edgeOn oi).contains j) || (asg oj.op && (edgeOn oj).contains i)) = true ∧ (i == j || oi.dst != some d) = true := by
    intro i j oi oj d hi hj hd
    unfold depOk at h
    rw [List.all_eq_true] at h
    have h1 := h i (by simpa using (List.getElem?_eq_some_iff.1 hi).1)
    rw [List.all_eq_true] at h1
    have h2 := h1 j (by simpa using (List.getElem?_eq_some_iff.1 hj).1)
    simp only [hi, hj, hd, Bool.and_eq_true] at h2
    exact h2
  refine ⟨fun i j oi oj d hi hj hd hm => ?_, fun i j oi oj d hi hj hd hne => ?_⟩
  · have := (key i j oi oj d hi hj hd).1
    have hc : (slotsOf ops oi).contains d = true := by simpa using hm
    rw [hc] at this
    simpa using this
  · have := (key i j oi oj d hi hj hd).2
    have hne' : (i == j) = false := by simpa using hne
    rw [hne'] at this
    simpa using this

def LtOk (ops : List Oper) : Prop := ∀ (i : Nat) (o : Oper), ops[i]? = some o → ∀ j ∈ edgeOn o, j < i

theorem ltOk_ok {ops : List Oper} (h : ltOk ops = true) : LtOk ops := by
  intro i o hi j hj
  unfold ltOk at h
  rw [List.all_eq_true] at h
  have h1 := h i (by simpa using (List.getElem?_eq_some_iff.1 hi).1)
  simp only [hi, List.all_eq_true] at h1
  simpa [Nat.blt_eq] using h1 j hj

/-! Heaps without what need not be there. -/
def hless (H : Nat → Option BO) (as : List (Nat × Nat)) (keep : Nat → Prop) (t : Nat) : Prop := ∃ p ∈ as, p.2 = t ∧ ¬ keep p.1

open Classical in
noncomputable def Hless (H : Nat → Option BO) (as : List (Nat × Nat)) (keep : Nat → Prop) : Nat → Option BO := fun t => if hless H as keep t then none else H t

theorem Hless_some {H : Nat → Option BO} {as : List (Nat × Nat)} {keep : Nat → Prop} {t : Nat} {o : BO} : Hless H as keep t = some o ↔ H t = some o ∧ ∀ p ∈ as, p.2 = t → keep p.1 := by
  unfold Hless hless
  split
  · rename_i h
    obtain ⟨p, h1, h2, h3⟩ := h
    constructor
    · intro h; cases h
    · rintro ⟨_, h4⟩; exact absurd (h4 p h1 h2) h3
  · rename_i h
    constructor
    · intro ho
      refine ⟨ho, fun p hp he => Classical.byContradiction fun hn => h ⟨p, hp, he, hn⟩⟩
    · rintro ⟨ho, _⟩; exact ho

theorem without_some {anc : Nat} : ∀ {as : List (Nat × Nat)} {h : Hp} {κ : Hp → Option R}, without anc as h κ = some r → ∃ h', κ h' = some r ∧ ∀ t o, h'.get t = some o ↔ Hless h.get as (bit anc) t = some o
  | [], h, κ, hh => ⟨h, hh, fun t o => by rw [Hless_some]; simp⟩
  | (i, k) :: as, h, κ, hh => by
    simp only [without] at hh
    cases hb : inMask anc i with
    | true =>
      rw [hb] at hh
      obtain ⟨h', h1, h2⟩ := without_some (show without anc as h κ = some r from hh)
      refine ⟨h', h1, fun t o => ?_⟩
      rw [h2, Hless_some, Hless_some]
      simp only [List.mem_cons]
      constructor
      · rintro ⟨g1, g2⟩
        refine ⟨g1, fun p hp he => ?_⟩
        rcases hp with rfl | hp
        · exact hb
        · exact g2 p hp he
      · rintro ⟨g1, g2⟩
        exact ⟨g1, fun p hp he => g2 p (.inr hp) he⟩
    | false =>
      rw [hb] at hh
      obtain ⟨h1', g1, g2⟩ := Tr.delK_some (show Tr.delK h k _ = some r from hh)
      obtain ⟨h', h1, h2⟩ := without_some g1
      refine ⟨h', h1, fun t o => ?_⟩
      rw [h2, Hless_some, Hless_some, g2]
      simp only [List.mem_cons]
      constructor
      · rintro ⟨g3, g4⟩
        split at g3
        · cases g3
        · rename_i hne
          refine ⟨g3, fun p hp he => ?_⟩
          rcases hp with rfl | hp
          · exact absurd he.symm hne
          · exact g4 p hp he
      · rintro ⟨g3, g4⟩
        rw [if_neg (fun e => ?_)]
        · exact ⟨g3, fun p hp he => g4 p (.inr hp) he⟩
        · have := g4 (i, k) (.inl rfl) e.symm
          unfold bit at this
          rw [hb] at this; cases this

theorem again_some {anc : Nat} {h0 : Hp} : ∀ {as : List (Nat × Nat)} {h : Hp} {κ : Hp → Option R}, again anc h0 as h κ = some r → ∃ h', κ h' = some r ∧ (∀ p ∈ as, ¬ bit anc p.1 → h.get p.2 = none ∧ ∃ o, h0.get p.2 = some o ∧ h'.get p.2 = some o) ∧ ∀ t, (∀ p ∈ as, ¬ bit anc p.1 → p.2 ≠ t) → h'.get t = h.get t
  | [], h, κ, hh => ⟨h, hh, by simp, fun t _ => rfl⟩
  | (i, k) :: as, h, κ, hh => by
    simp only [again] at hh
    cases hb : inMask anc i with
    | true =>
      rw [hb] at hh
      obtain ⟨h', h1, h2, h3⟩ := again_some (show again anc h0 as h κ = some r from hh)
      refine ⟨h', h1, fun p hp hn => ?_, fun t ht => h3 t (fun p hp => ht p (by simp [hp]))⟩
      simp only [List.mem_cons] at hp
      rcases hp with rfl | hp
      · exact absurd hb hn
      · exact h2 p hp hn
    | false =>
      rw [hb] at hh
      simp only [cond_false] at hh
      split at hh
      · rename_i o ho
        split at hh
        · cases hh
        · rename_i hnone
          obtain ⟨h1', g1, g2⟩ := Tr.setK_some _ hh
          obtain ⟨h', h1, h2, h3⟩ := again_some g1
          have hne : ∀ p ∈ as, ¬ bit anc p.1 → p.2 ≠ k := by
            intro p hp hn e
            have := (h2 p hp hn).1
            rw [g2, if_pos e] at this
            cases this
          refine ⟨h', h1, fun p hp hn => ?_, fun t ht => ?_⟩
          · simp only [List.mem_cons] at hp
            rcases hp with rfl | hp
            · exact ⟨hnone, o, ho, by rw [h3 k hne, g2, if_pos rfl]⟩
            · obtain ⟨q1, q2⟩ := h2 p hp hn
              rw [g2, if_neg (hne p hp hn)] at q1
              exact ⟨q1, q2⟩
          · rw [h3 t (fun p hp => ht p (by simp [hp])), g2, if_neg (fun e => ?_)]
            exact ht (i, k) (by simp) (by unfold bit; rw [hb]; simp) e.symm
      · cases hh

theorem eqL_eq : ∀ {l m : List Nat}, eqL l m = true → l = m
  | [], [], _ => rfl
  | [], _ :: _, h => by simp [eqL] at h
  | _ :: _, [], h => by simp [eqL] at h
  | a :: l, b :: m, h => by
    simp only [eqL, Bool.and_eq_true] at h
    rw [nat_beq h.1, eqL_eq h.2]

mutual
theorem sameV_eq : ∀ {u v : V}, sameV u v = true → u = v
  | .iface t u, v, h => by
    cases v <;> simp only [sameV, Bool.and_eq_true, Bool.false_eq_true] at h
    rw [nat_beq h.1, sameV_eq h.2]
  | .agg l, v, h => by
    cases v <;> simp only [sameV, Bool.and_eq_true, Bool.false_eq_true] at h
    rw [sameVs_eq h]
  | .tup l, v, h => by
    cases v <;> simp only [sameV, Bool.and_eq_true, Bool.false_eq_true] at h
    rw [sameVs_eq h]
  | .func f a b, v, h => by
    cases v <;> simp only [sameV, Bool.and_eq_true, Bool.false_eq_true] at h
    rw [nat_beq h.1.1, sameVs_eq h.1.2, sameVs_eq h.2]
  | .bool a, v, h => by
    cases v <;> simp only [sameV, Bool.and_eq_true, Bool.false_eq_true] at h
    cases a <;> rename_i b <;> cases b <;> first | rfl | cases h
  | .int k a, v, h => by
    cases v <;> simp only [sameV, Bool.and_eq_true, Bool.false_eq_true] at h
    rw [kEq_eq h.1]
    have := h.2
    rw [iEq_iff, beq_iff_eq] at this
    rw [this]
  | .bs l, v, h => by
    cases v <;> simp only [sameV, Bool.and_eq_true, Bool.false_eq_true] at h
    rw [eqL_eq h]
  | .ptr t o, v, h => by
    cases v <;> simp only [sameV, Bool.and_eq_true, Bool.false_eq_true] at h
    rw [nat_beq h.1, nat_beq h.2]
  | .nptr, v, h => by cases v <;> first | rfl | (simp [sameV] at h; done)
  | .sl t a b c, v, h => by
    cases v <;> simp only [sameV, Bool.and_eq_true, Bool.false_eq_true] at h
    simp [nat_beq h.1.1.1, nat_beq h.1.1.2, nat_beq h.1.2, nat_beq h.2]
  | .vw t a b, v, h => by
    cases v <;> simp only [sameV, Bool.and_eq_true, Bool.false_eq_true] at h
    simp [nat_beq h.1.1, nat_beq h.1.2, nat_beq h.2]
  | .vec t a, v, h => by
    cases v <;> simp only [sameV, Bool.and_eq_true, Bool.false_eq_true] at h
    rw [nat_beq h.1, nat_beq h.2]
  | .nsl, v, h => by cases v <;> first | rfl | (simp [sameV] at h; done)
  | .niface, v, h => by cases v <;> first | rfl | (simp [sameV] at h; done)
  | .nfunc, v, h => by cases v <;> first | rfl | (simp [sameV] at h; done)
  | .map t, v, h => by
    cases v <;> simp only [sameV, Bool.and_eq_true, Bool.false_eq_true] at h
    rw [nat_beq h]
  | .nmap, v, h => by cases v <;> first | rfl | (simp [sameV] at h; done)
  | .raw x, v, h => by cases v <;> simp [sameV] at h
theorem sameVs_eq : ∀ {l m : List V}, sameV.sameVs l m = true → l = m
  | [], [], _ => rfl
  | [], _ :: _, h => by simp [sameV.sameVs] at h
  | _ :: _, [], h => by simp [sameV.sameVs] at h
  | a :: l, b :: m, h => by
    simp only [sameV.sameVs, Bool.and_eq_true] at h
    rw [sameV_eq h.1, sameVs_eq h.2]
end
end Go.Kn
