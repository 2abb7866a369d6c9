/- The framework: walks of code that keep plain values. -/
import Derived.Test.YtoaajjhcdbbfdaaFwR
import Derived.Orders
set_option linter.unusedSimpArgs false
set_option linter.unnecessarySimpa false
set_option linter.unusedVariables false
namespace Go.Abs

def uniq (l : Env) : Prop := ∀ k v v', (k, v) ∈ l → (k, v') ∈ l → v = v'

theorem look_of_mem : ∀ {l : Env} {k : Nat} {v : AX}, uniq l → (k, v) ∈ l → look l k = some v
  | (j, u) :: l, k, v, hu, h => by
    simp only [look]
    split
    · rename_i hj
      have := Nat.eq_of_beq_eq_true hj
      subst this
      rw [hu j u v (List.mem_cons_self ..) h]
    · rename_i hj
      rcases List.mem_cons.1 h with he | h
      · exact absurd (Prod.mk.inj he).1.symm (Nat.ne_of_beq_eq_false hj)
      · exact look_of_mem (fun k v v' h1 h2 => hu k v v' (List.mem_cons_of_mem _ h1) (List.mem_cons_of_mem _ h2)) h

/-- The same entries. -/
def Same (l1 l2 : Env) : Prop := ∀ kv, kv ∈ l1 ↔ kv ∈ l2

theorem Same.uniq {l1 l2 : Env} (h : Same l1 l2) (hu : uniq l1) : uniq l2 := fun k v v' h1 h2 => hu k v v' ((h _).2 h1) ((h _).2 h2)

theorem Same.look {l1 l2 : Env} (h : Same l1 l2) (hu : Abs.uniq l1) (k : Nat) : look l2 k = look l1 k := by
  have hu2 := h.uniq hu
  cases h1 : Abs.look l1 k with
  | some v => exact look_of_mem hu2 ((h _).1 (look_mem h1))
  | none =>
    cases h2 : Abs.look l2 k with
    | none => rfl
    | some v =>
      have := look_of_mem hu ((h _).2 (look_mem h2))
      rw [h1] at this; simp at this

/-- What an operation writes anew. -/
def newU : List (Nat × Option AX) → Env
  | [] => []
  | (_, none) :: up => newU up
  | (r, some ax) :: up => (r, ax) :: newU up

def newsOf (dst : Option Tmp) (o : Out) : Env := match dst, o.val with
  | some d, some v => (d, v) :: newU o.upd
  | _, _ => newU o.upd

def wrOf (dst : Option Tmp) (o : Out) : List Nat := match dst with
  | some d => d :: keys o.upd
  | none => keys o.upd

def killU : List (Nat × Option AX) → AX → Bool
  | [], _ => false
  | (r, none) :: up, v => isRefTo true r v || killU up v
  | (r, some _) :: up, v => isRefTo false r v || killU up v

def killed (dst : Option Tmp) (o : Out) (v : AX) : Bool := match dst with
  | some d => isRefTo true d v || killU o.upd v
  | none => killU o.upd v

def isVal : AX → Bool
  | .ref _ _ => false
  | .place _ _ => false
  | _ => true

theorem memb_true {k : Nat} : ∀ {l : List Nat}, memb k l = true → k ∈ l
  | j :: l, h => by
    simp only [memb] at h
    split at h
    · rename_i hj; rw [Nat.eq_of_beq_eq_true hj]; exact List.mem_cons_self ..
    · exact List.mem_cons_of_mem _ (memb_true h)

def rootIn (K : List Nat) : AX → Bool
  | .ref r _ => memb r K
  | .place r _ => memb r K
  | _ => false
def fineU (K : List Nat) (up : List (Nat × Option AX)) (ax : AX) : Bool := match isVal ax with
  | true => true
  | false => match rootIn K ax with | true => !(killU up ax) | false => false

/-- An operation's writings do not touch each other. -/
def wfUA (K : List Nat) : List (Nat × Option AX) → Bool
  | [] => true
  | (r, none) :: up => match memb r (keys up) with | true => false | false => wfUA K up
  | (r, some ax) :: up => match memb r (keys up) with | true => false | false => match fineU K up ax with | true => wfUA K up | false => false
def wfU (up : List (Nat × Option AX)) : Bool := wfUA (keys up) up

def wfO (dst : Option Tmp) (o : Out) : Bool := match dst with
  | some d => match memb d (keys o.upd) with
    | true => false
    | false => match o.val with
      | none => wfU o.upd
      | some v => match killed (some d) o v with | true => false | false => wfU o.upd
  | none => wfU o.upd

theorem isRefTo_val {all : Bool} {r : Nat} {v : AX} (h : isVal v = true) : isRefTo all r v = false := by cases v <;> simp_all [isVal, isRefTo]

theorem mem_purge_iff {r : Nat} {all : Bool} {l : Env} {kv : Nat × AX} : kv ∈ purge r all l ↔ kv ∈ l ∧ kv.1 ≠ r ∧ isRefTo all r kv.2 = false :=
  ⟨mem_purge, fun ⟨h1, h2, h3⟩ => mem_purge_of h1 h2 h3⟩

theorem mem_applyUpd_iffA {K : List Nat} : ∀ {up : List (Nat × Option AX)} {l : Env} {kv : Nat × AX}, wfUA K up = true → (kv ∈ applyUpd l up ↔ kv ∈ newU up ∨ (kv ∈ l ∧ kv.1 ∉ keys up ∧ killU up kv.2 = false))
  | [], l, kv, _ => by simp [applyUpd, newU, keys, killU]
  | (r, none) :: up, l, kv, h => by
    simp only [wfUA] at h
    split at h
    · simp at h
    · rename_i hm
      simp only [applyUpd, newU]
      rw [mem_applyUpd_iffA h, mem_purge_iff]
      simp only [keys, List.map_cons, List.mem_cons, not_or, killU, Bool.or_eq_false_iff]
      constructor
      · rintro (h1 | ⟨⟨h1, h2, h3⟩, h4, h5⟩)
        · exact .inl h1
        · exact .inr ⟨h1, ⟨h2, h4⟩, h3, h5⟩
      · rintro (h1 | ⟨h1, ⟨h2, h4⟩, h3, h5⟩)
        · exact .inl h1
        · exact .inr ⟨⟨h1, h2, h3⟩, h4, h5⟩
  | (r, some ax) :: up, l, kv, h => by
    simp only [wfUA] at h
    split at h
    · simp at h
    rename_i hm
    split at h
    case h_2 => simp at h
    rename_i hv
    simp only [applyUpd, newU]
    rw [mem_applyUpd_iffA h]
    have hr : r ∉ keys up := memb_false hm
    have hk : killU up ax = false := by
      unfold fineU at hv
      split at hv
      · rename_i hv2
        clear h hm hr hv
        induction up with
        | nil => rfl
        | cons x up ih =>
          obtain ⟨r', o'⟩ := x
          cases o' <;> simp [killU, isRefTo_val hv2, ih]
      · split at hv
        · simpa using hv
        · simp at hv
    simp only [List.mem_cons, mem_purge_iff, keys, List.map_cons, not_or, killU, Bool.or_eq_false_iff]
    constructor
    · rintro (h1 | ⟨rfl | ⟨h1, h2, h3⟩, h4, h5⟩)
      · exact .inl (.inr h1)
      · exact .inl (.inl rfl)
      · exact .inr ⟨h1, ⟨h2, h4⟩, h3, h5⟩
    · rintro ((rfl | h1) | ⟨h1, ⟨h2, h4⟩, h3, h5⟩)
      · exact .inr ⟨.inl rfl, hr, hk⟩
      · exact .inl h1
      · exact .inr ⟨.inr ⟨h1, h2, h3⟩, h4, h5⟩

theorem mem_applyUpd_iff {up : List (Nat × Option AX)} {l : Env} {kv : Nat × AX} (h : wfU up = true) : kv ∈ applyUpd l up ↔ kv ∈ newU up ∨ (kv ∈ l ∧ kv.1 ∉ keys up ∧ killU up kv.2 = false) := mem_applyUpd_iffA h

theorem newU_keys : ∀ {up : List (Nat × Option AX)} {kv : Nat × AX}, kv ∈ newU up → kv.1 ∈ keys up
  | (r, none) :: up, kv, h => by simp only [keys, List.map_cons]; exact List.mem_cons_of_mem _ (newU_keys h)
  | (r, some ax) :: up, kv, h => by
    simp only [keys, List.map_cons]
    rcases List.mem_cons.1 h with rfl | h
    · exact List.mem_cons_self ..
    · exact List.mem_cons_of_mem _ (newU_keys h)

theorem newU_valA {K : List Nat} : ∀ {up : List (Nat × Option AX)} {kv : Nat × AX}, wfUA K up = true → kv ∈ newU up → isVal kv.2 = true ∨ rootIn K kv.2 = true
  | (r, none) :: up, kv, hw, h => by
    simp only [wfUA] at hw
    split at hw
    · simp at hw
    · exact newU_valA hw h
  | (r, some ax) :: up, kv, hw, h => by
    simp only [wfUA] at hw
    split at hw
    · simp at hw
    split at hw
    case h_2 => simp at hw
    rename_i hv
    rcases List.mem_cons.1 h with rfl | h
    · unfold fineU at hv
      split at hv
      · rename_i h1; exact .inl h1
      · split at hv
        · rename_i h1; exact .inr h1
        · simp at hv
    · exact newU_valA hw h
theorem newU_val {up : List (Nat × Option AX)} {kv : Nat × AX} (hw : wfU up = true) (h : kv ∈ newU up) : isVal kv.2 = true ∨ rootIn (keys up) kv.2 = true := newU_valA hw h

theorem rootIn_not {K : List Nat} {v : AX} {d : Nat} (h : rootIn K v = true) (hd : d ∉ K) : isRefTo true d v = false := by
  cases v with
  | ref r p =>
    have hne : Nat.beq r d = false := by
      cases hb : Nat.beq r d with
      | false => rfl
      | true => exact absurd (Nat.eq_of_beq_eq_true hb ▸ memb_true h) hd
    simp [isRefTo, hne]
  | place r p =>
    simp only [isRefTo]
    cases hb : Nat.beq r d with
    | false => rfl
    | true => exact absurd (Nat.eq_of_beq_eq_true hb ▸ memb_true h) hd
  | _ => rfl

theorem mem_after {l : Env} {dst : Option Tmp} {o : Out} {kv : Nat × AX} (h : wfO dst o = true) : kv ∈ after l dst o ↔ kv ∈ newsOf dst o ∨ (kv ∈ l ∧ kv.1 ∉ wrOf dst o ∧ killed dst o kv.2 = false) := by
  cases dst with
  | none =>
    have h : wfU o.upd = true := h
    simp only [after, newsOf, wrOf, killed]
    exact mem_applyUpd_iff h
  | some d =>
    simp only [wfO] at h
    split at h
    · simp at h
    rename_i hm
    have hd := memb_false hm
    have core : ∀ (hw : wfU o.upd = true), (kv ∈ purge d true (applyUpd l o.upd) ↔ kv ∈ newU o.upd ∨ (kv ∈ l ∧ kv.1 ∉ d :: keys o.upd ∧ (isRefTo true d kv.2 || killU o.upd kv.2) = false)) := by
      intro hw
      rw [mem_purge_iff, mem_applyUpd_iff hw]
      simp only [List.mem_cons, not_or, Bool.or_eq_false_iff]
      constructor
      · rintro ⟨h1 | ⟨h1, h2, h3⟩, h4, h5⟩
        · exact .inl h1
        · exact .inr ⟨h1, ⟨h4, h2⟩, h5, h3⟩
      · rintro (h1 | ⟨h1, ⟨h4, h2⟩, h5, h3⟩)
        · exact ⟨.inl h1, fun he => hd (he ▸ newU_keys h1), (newU_val hw h1).elim isRefTo_val fun h => rootIn_not h hd⟩
        · exact ⟨.inr ⟨h1, h2, h3⟩, h4, h5⟩
    cases hv : o.val with
    | none =>
      simp only [hv] at h
      simp only [after, hv, newsOf, wrOf, killed]
      exact core h
    | some v =>
      simp only [hv] at h
      split at h
      · simp at h
      simp only [after, hv, newsOf, wrOf, killed, List.mem_cons]
      rw [core h]
      simp only [List.mem_cons]
      constructor
      · rintro (h1 | h1 | h1)
        · exact .inl (.inl h1)
        · exact .inl (.inr h1)
        · exact .inr h1
      · rintro ((h1 | h1) | h1)
        · exact .inl h1
        · exact .inr (.inl h1)
        · exact .inr (.inr h1)

theorem news_keys {dst : Option Tmp} {o : Out} {kv : Nat × AX} (h : kv ∈ newsOf dst o) : kv.1 ∈ wrOf dst o := by
  unfold newsOf at h
  unfold wrOf
  split at h
  · rcases List.mem_cons.1 h with rfl | h
    · exact List.mem_cons_self ..
    · exact List.mem_cons_of_mem _ (newU_keys h)
  · have := newU_keys h
    split
    · exact List.mem_cons_of_mem _ this
    · exact this

theorem killed_of_root {dst : Option Tmp} {o : Out} {v : AX} (h : ∀ r p, (v = .ref r p ∨ v = .place r p) → r ∉ wrOf dst o) : killed dst o v = false := by
  have hU : ∀ (up : List (Nat × Option AX)), (∀ r p, (v = .ref r p ∨ v = .place r p) → r ∉ keys up) → killU up v = false := by
    intro up
    induction up with
    | nil => intro _; rfl
    | cons x up ih =>
      obtain ⟨r', o'⟩ := x
      intro hk
      have h1 : ∀ all, isRefTo all r' v = false := fun all => isRefTo_other fun r p hv he => hk r p hv (by subst he; simp [keys])
      have h2 := ih fun r p hv hm => hk r p hv (by simp only [keys, List.map_cons]; exact List.mem_cons_of_mem _ hm)
      cases o' <;> simp [killU, h1, h2]
  unfold killed
  cases dst with
  | none => exact hU _ fun r p hv hm => h r p hv hm
  | some d =>
    simp only [Bool.or_eq_false_iff]
    exact ⟨isRefTo_other fun r p hv he => h r p hv (by subst he; simp [wrOf]), hU _ fun r p hv hm => h r p hv (by simp only [wrOf]; exact List.mem_cons_of_mem _ hm)⟩

/-- One operation of a region: how it goes from a state, what it looks at and what it writes. -/
structure Item (P : Program) (c : Ctx) (ops : Array Oper) where
  o : Oper
  out : Out
  rd : List Nat
  runs : Bool

section
variable {P : Program} {c : Ctx} {ops : Array Oper}

def Item.wr (x : Item P c ops) : List Nat := wrOf x.o.dst x.out

/-- The roots of what is read are read. -/
def closedAt (l : Env) (rd : List Nat) : List Nat → Bool
  | [] => true
  | k :: ks => match look l k with
    | some (.ref r _) => match memb r rd with | true => closedAt l rd ks | false => false
    | some (.place r _) => match memb r rd with | true => closedAt l rd ks | false => false
    | some _ => closedAt l rd ks
    | none => false

def valClosed (rd : List Nat) : Option AX → Bool
  | some (.ref r p) => memb r rd || p.isEmpty
  | some (.place r _) => memb r rd
  | _ => true

def within : List Nat → List Nat → Bool
  | [], _ => true
  | k :: ks, l => match memb k l with | true => within ks l | false => false

def guardTmp (ops : Array Oper) (o : Oper) : List Nat := match o.guard with
  | none => []
  | some (j, _) => ((ops[j]?).bind (·.dst)).toList

/-- The operation goes so from this state. -/
structure Item.ok (x : Item P c ops) (l : Env) : Prop where
  guard : guardSays ops l x.o x.runs
  run : x.runs = true → SR P c l x.o x.out
  pass : x.runs = false → x.out = deadOut
  wf : wfO x.o.dst x.out = true
  rd : within x.out.rd x.rd = true
  grd : within (guardTmp ops x.o) x.rd = true
  closed : closedAt l x.rd x.rd = true
  vclosed : valClosed x.rd x.out.val = true

theorem within_spec : ∀ {ks l : List Nat}, within ks l = true → ∀ k ∈ ks, k ∈ l
  | [], _, _ => by simp
  | k :: ks, l, h => by
    simp only [within] at h
    split at h
    · rename_i hk
      exact fun j hj => by
        rcases List.mem_cons.1 hj with rfl | hj
        · exact memb_true hk
        · exact within_spec h j hj
    · simp at h

theorem closedAt_spec {l : Env} {rd : List Nat} : ∀ {ks : List Nat}, closedAt l rd ks = true → ∀ k ∈ ks, ∀ v, look l k = some v → ∀ r p, (v = .ref r p ∨ v = .place r p) → r ∈ rd
  | [], _ => by simp
  | k :: ks, h => by
    intro j hj v hv r p hrp
    simp only [closedAt] at h
    rcases List.mem_cons.1 hj with rfl | hj
    · rw [hv] at h
      rcases hrp with rfl | rfl
      · simp only at h; split at h
        · rename_i hm; exact memb_true hm
        · simp at h
      · simp only at h; split at h
        · rename_i hm; exact memb_true hm
        · simp at h
    · split at h
      · split at h
        · exact closedAt_spec h j hj v hv r p hrp
        · simp at h
      · split at h
        · exact closedAt_spec h j hj v hv r p hrp
        · simp at h
      · exact closedAt_spec h j hj v hv r p hrp
      · simp at h

theorem closedAt_some {l : Env} {rd : List Nat} : ∀ {ks : List Nat}, closedAt l rd ks = true → ∀ k ∈ ks, ∃ v, look l k = some v
  | [], _ => by simp
  | k :: ks, h => by
    intro j hj
    simp only [closedAt] at h
    rcases List.mem_cons.1 hj with rfl | hj
    · cases hl : look l j with
      | none => rw [hl] at h; simp at h
      | some v => exact ⟨v, rfl⟩
    · split at h
      · split at h
        · exact closedAt_some h j hj
        · simp at h
      · split at h
        · exact closedAt_some h j hj
        · simp at h
      · exact closedAt_some h j hj
      · simp at h

/-- From a state that reads alike at what the operation looks at it goes likewise. -/
theorem Item.ok.agree {x : Item P c ops} {l l' : Env} (h : x.ok l) (ha : ∀ k ∈ x.rd, look l' k = look l k) : x.ok l' := by
  refine ⟨?_, fun hr l'' hl'' => h.run hr l'' fun k hk => (hl'' k hk).trans (ha k (within_spec h.rd k hk)), h.pass, h.wf, h.rd, h.grd, ?_, h.vclosed⟩
  · have hg := h.guard
    have hgrd := h.grd
    unfold guardSays at hg ⊢
    unfold guardTmp at hgrd
    split at hg
    · exact hg
    · rename_i j want hgd
      rcases hg with ⟨t, m, b, h1, h2, h3⟩ | ⟨t, vs, h1, h2, h3⟩
      · refine .inl ⟨t, m, b, h1, ?_, h3⟩
        rw [hgd] at hgrd
        simp only [h1, Option.toList] at hgrd
        rw [ha t (within_spec hgrd t (by simp))]
        exact h2
      · refine .inr ⟨t, vs, h1, ?_, h3⟩
        rw [hgd] at hgrd
        simp only [h1, Option.toList] at hgrd
        rw [ha t (within_spec hgrd t (by simp))]
        exact h2
  · have hc := h.closed
    have : ∀ ks, (∀ k ∈ ks, k ∈ x.rd) → closedAt l x.rd ks = true → closedAt l' x.rd ks = true := by
      intro ks
      induction ks with
      | nil => intro _ _; rfl
      | cons k ks ih =>
        intro hk hcl
        simp only [closedAt] at hcl ⊢
        rw [ha k (hk k (List.mem_cons_self ..))]
        have ih' := ih (fun j hj => hk j (List.mem_cons_of_mem _ hj))
        split at hcl
        · split at hcl
          · exact ih' hcl
          · simp at hcl
        · split at hcl
          · exact ih' hcl
          · simp at hcl
        · exact ih' hcl
        · simp at hcl
    exact this x.rd (fun _ h => h) hc

/-- Neither writes what the other looks at or writes. -/
def bareKept (x y : Item P c ops) : Bool := match x.out.val with
  | some (.ref r []) => memb r x.rd || !(killed y.o.dst y.out (.ref r []))
  | _ => true
def apartB (x y : Item P c ops) : Bool := (disj x.wr y.rd && disj x.wr y.wr && disj y.wr x.rd) && (bareKept x y && bareKept y x)

theorem uniq_after {x : Item P c ops} {l : Env} (hu : uniq l) : uniq (after l x.o.dst x.out) := by
  have huU : ∀ (up : List (Nat × Option AX)) (l : Env), uniq l → uniq (applyUpd l up) := by
    intro up
    induction up with
    | nil => intro l h; exact h
    | cons y up ih =>
      obtain ⟨r, o⟩ := y
      intro l h
      cases o with
      | none => exact ih _ fun k v v' h1 h2 => h k v v' (purge_sub _ h1) (purge_sub _ h2)
      | some ax =>
        refine ih _ fun k v v' h1 h2 => ?_
        rcases List.mem_cons.1 h1 with e1 | h1 <;> rcases List.mem_cons.1 h2 with e2 | h2
        · exact (Prod.mk.inj e1).2.trans (Prod.mk.inj e2).2.symm
        · exact absurd (Prod.mk.inj e1).1 (mem_purge h2).2.1
        · exact absurd (Prod.mk.inj e2).1 (mem_purge h1).2.1
        · exact h k v v' (purge_sub _ h1) (purge_sub _ h2)
  have h0 := huU x.out.upd l hu
  unfold after
  split
  · intro k v v' h1 h2
    rcases List.mem_cons.1 h1 with e1 | h1 <;> rcases List.mem_cons.1 h2 with e2 | h2
    · exact (Prod.mk.inj e1).2.trans (Prod.mk.inj e2).2.symm
    · exact absurd (Prod.mk.inj e1).1 (mem_purge h2).2.1
    · exact absurd (Prod.mk.inj e2).1 (mem_purge h1).2.1
    · exact h0 k v v' (purge_sub _ h1) (purge_sub _ h2)
  · exact fun k v v' h1 h2 => h0 k v v' (purge_sub _ h1) (purge_sub _ h2)
  · exact h0

/-- Behind x, what y looks at reads as it did. -/
theorem look_behind {x y : Item P c ops} {l : Env} (hu : uniq l) (hx : wfO x.o.dst x.out = true) (hy : closedAt l y.rd y.rd = true) (hd : disj x.wr y.rd = true) : ∀ k ∈ y.rd, look (after l x.o.dst x.out) k = look l k := by
  intro k hk
  have hk1 : k ∉ x.wr := fun h => disj_spec hd k h hk
  have hu' := uniq_after (x := x) hu
  cases h1 : look l k with
  | some v =>
    refine look_of_mem hu' ((mem_after hx).2 (.inr ⟨look_mem h1, hk1, killed_of_root fun r p hrp hr => ?_⟩))
    exact disj_spec hd r hr (closedAt_spec hy k hk v h1 r p hrp)
  | none =>
    cases h2 : look (after l x.o.dst x.out) k with
    | none => rfl
    | some v =>
      rcases (mem_after hx).1 (look_mem h2) with h3 | ⟨h3, _⟩
      · exact absurd (news_keys h3) hk1
      · rw [look_of_mem hu h3] at h1; simp at h1

theorem news_killed {x y : Item P c ops} (hx : valClosed x.rd x.out.val = true) (hwx : wfO x.o.dst x.out = true) (hd : disj y.wr x.rd = true) (hww : ∀ k ∈ y.wr, k ∉ x.wr) (hb : bareKept x y = true) : ∀ kv ∈ newsOf x.o.dst x.out, killed y.o.dst y.out kv.2 = false := by
  intro kv hkv
  by_cases hbare : ∃ r, x.out.val = some (.ref r []) ∧ memb r x.rd = false ∧ kv.2 = .ref r []
  · obtain ⟨r, h1, h2, h3⟩ := hbare
    unfold bareKept at hb
    rw [h1] at hb
    simp only [h2, Bool.false_or] at hb
    rw [h3]
    simpa using hb
  refine killed_of_root fun r p hrp hr => ?_
  have hU : wfU x.out.upd = true := by
    unfold wfO at hwx
    split at hwx
    · split at hwx
      · simp at hwx
      · split at hwx
        · exact hwx
        · split at hwx
          · simp at hwx
          · exact hwx
    · exact hwx
  have hval : kv ∈ newU x.out.upd → False := fun h => by
    have hin : rootIn (keys x.out.upd) kv.2 = true := by
      rcases newU_val hU h with h1 | h1
      · rcases hrp with h | h <;> simp [h, isVal] at h1
      · exact h1
    have hk : r ∈ keys x.out.upd := by rcases hrp with h | h <;> (rw [h] at hin; exact memb_true hin)
    refine hww r hr ?_
    show r ∈ wrOf x.o.dst x.out
    unfold wrOf
    split
    · exact List.mem_cons_of_mem _ hk
    · exact hk
  unfold newsOf at hkv
  split at hkv
  · rename_i d v hv
    rcases List.mem_cons.1 hkv with rfl | hkv
    · have hm : r ∈ x.rd := by
        rw [hv] at hx
        rcases hrp with h | h
        · simp only at h
          subst h
          simp only [valClosed, Bool.or_eq_true] at hx
          cases hmb : memb r x.rd with
          | true => exact memb_true hmb
          | false =>
            rcases hx with hx | hx
            · rw [hmb] at hx; cases hx
            · cases p with
              | nil => exact absurd ⟨r, hv, hmb, rfl⟩ hbare
              | cons _ _ => simp at hx
        · simp only at h; subst h; exact memb_true hx
      exact disj_spec hd r hr hm
    · exact hval hkv
  · exact hval hkv

/-- Two operations that do not touch each other come to the same in either order. -/
theorem after_comm {x y : Item P c ops} {l : Env} (hwx : wfO x.o.dst x.out = true) (hwy : wfO y.o.dst y.out = true) (hvx : valClosed x.rd x.out.val = true) (hvy : valClosed y.rd y.out.val = true) (ha : apartB x y = true) :
    Same (after (after l x.o.dst x.out) y.o.dst y.out) (after (after l y.o.dst y.out) x.o.dst x.out) := by
  simp only [apartB, Bool.and_eq_true] at ha
  obtain ⟨⟨⟨h1, h2⟩, h3⟩, hb1, hb2⟩ := ha
  intro kv
  rw [mem_after hwy, mem_after hwx, mem_after hwx, mem_after hwy]
  constructor
  · rintro (ha | ⟨ha | ⟨ha, hb, hc⟩, hd, he⟩)
    · exact .inr ⟨.inl ha, fun hw => disj_spec h2 _ hw (news_keys ha), news_killed hvy hwy h1 (disj_spec h2) hb2 kv ha⟩
    · exact .inl ha
    · exact .inr ⟨.inr ⟨ha, hd, he⟩, hb, hc⟩
  · rintro (ha | ⟨ha | ⟨ha, hb, hc⟩, hd, he⟩)
    · exact .inr ⟨.inl ha, fun hw => disj_spec h2 _ (news_keys ha) hw, news_killed hvx hwx h3 (fun k a b => disj_spec h2 k b a) hb1 kv ha⟩
    · exact .inl ha
    · exact .inr ⟨.inr ⟨ha, hd, he⟩, hb, hc⟩

theorem Same.after {l1 l2 : Env} {dst : Option Tmp} {out : Out} (h : Same l1 l2) (hw : wfO dst out = true) : Same (Abs.after l1 dst out) (Abs.after l2 dst out) := fun kv => by
  rw [mem_after hw, mem_after hw]
  simp only [h kv]

end
end Go.Abs
