/- The framework: walks of code that keep plain values. -/
import Derived.Test.YtoaajjhcdbbfdaaFwP
set_option linter.unusedSimpArgs false
set_option linter.unnecessarySimpa false
set_option linter.unusedVariables false
namespace Go.Abs

/-- From each machine that reads as l, the code ends in one that Q knows. -/
def AW (P : Program) (c : Ctx) (code : Code) (Q : Exit → Env → Prop) (l : Env) : Prop :=
  ∀ a w lab, Rel c l a w lab → code.wp P (fun e a' w' => ∃ l' lab', Q e l' ∧ Rel c l' a' w' lab') a w

def subEnv (l' l : Env) : Prop := ∀ kv ∈ l', kv ∈ l

section
variable {P : Program} {c : Ctx} {l : Env} {Q : Exit → Env → Prop}

theorem AW.mono {code : Code} {Q' : Exit → Env → Prop} (h : AW P c code Q l) (hq : ∀ e l, Q e l → Q' e l) : AW P c code Q' l :=
  fun a w lab hR => wp_mono (h a w lab hR) fun _ _ _ ⟨l', lab', h1, h2⟩ => ⟨l', lab', hq _ _ h1, h2⟩

theorem AW.weaken {code : Code} {l' : Env} (hs : subEnv l' l) (h : AW P c code Q l') : AW P c code Q l := fun a w lab hR => h a w lab (hR.weaken hs)

theorem AW.skip (h : Q .normal l) : AW P c .skip Q l := fun _ _ lab hR => wp_skip ⟨l, lab, h, hR⟩
theorem AW.exit {id : Nat} (h : Q (.exit id) l) : AW P c (.exit id) Q l := fun _ _ lab hR => wp_exit ⟨l, lab, h, hR⟩
theorem AW.ret (h : Q .ret l) : AW P c .ret Q l := fun _ _ lab hR => wp_ret ⟨l, lab, h, hR⟩

/-- Behind the first part's normal end stands the second. -/
def thenQ (P : Program) (c : Ctx) (y : Code) (Q : Exit → Env → Prop) : Exit → Env → Prop
  | .normal, l => AW P c y Q l
  | e, l => Q e l

theorem AW.seq {x y : Code} (h : AW P c x (thenQ P c y Q) l) : AW P c (.seq x y) Q l := fun a w lab hR => by
  refine wp_seq (wp_mono (h a w lab hR) ?_)
  rintro e a' w' ⟨l', lab', h1, h2⟩
  cases e with
  | normal => exact h1 a' w' lab' h2
  | _ => exact ⟨l', lab', h1, h2⟩

theorem AW.cond {q : Operand} {x y : Code} {k : Option Nat} {m : Nat} {b : Bool} (hv : view l q = some (.val k .bool m b)) (ht : b = true → AW P c x Q l) (hf : b = false → AW P c y Q l) : AW P c (.cond q x y) Q l := fun a w lab hR =>
  wp_cond_split (seen_bool hR (seen_of_view hv)) (fun h => ht h a w lab hR) (fun h => hf h a w lab hR)

def blockQ (id : Nat) (Q : Exit → Env → Prop) : Exit → Env → Prop
  | .exit id', l => if id' = id then Q .normal l else Q (.exit id') l
  | e, l => Q e l

theorem AW.block {id : Nat} {x : Code} (h : AW P c x (blockQ id Q) l) : AW P c (.block id x) Q l := fun a w lab hR => by
  refine wp_block (wp_mono (h a w lab hR) ?_)
  rintro e a' w' ⟨l', lab', h1, h2⟩
  cases e with
  | exit id' =>
    simp only [blockQ] at h1
    simp only [Exit.inBlock]
    split <;> rename_i hid
    · rw [if_pos hid] at h1; exact ⟨l', lab', h1, h2⟩
    · rw [if_neg hid] at h1; exact ⟨l', lab', h1, h2⟩
  | _ => exact ⟨l', lab', h1, h2⟩

/-- The end of a round: the invariant at a lesser number, on a part of the state. -/
def roundQ (I : Nat → Env → Prop) (n : Nat) (Q : Exit → Env → Prop) : Exit → Env → Prop
  | .normal, l => ∃ n' l', n' < n ∧ subEnv l' l ∧ I n' l'
  | e, l => Q e l

theorem AW.loop {x : Code} (I : Nat → Env → Prop) (n : Nat) (h0 : ∃ l', subEnv l' l ∧ I n l') (h : ∀ n l, I n l → AW P c x (roundQ I n Q) l) : AW P c (.loop x) Q l := fun a w lab hR => by
  obtain ⟨l0, hs0, hI0⟩ := h0
  have key : ∀ n a w, (∃ l lab, I n l ∧ Rel c l a w lab) → ∀ (b : Frame) (k : List Item) (cs : List Frame),
      ∃ e a' w', (∃ l' lab', Q e l' ∧ Rel c l' a' w' lab') ∧ Arrives P (lone (b.at a (.code x :: .inLoop x :: k)) cs w) b k cs e a' w' := by
    intro n
    induction n using Nat.strongRecOn with
    | _ n ih =>
      rintro a w ⟨l1, lab1, hI, hR1⟩ b k cs
      obtain ⟨e, a1, w1, ⟨l2, lab2, hq, hR2⟩, harr⟩ := h n l1 hI a w lab1 hR1 b (.inLoop x :: k) cs
      cases e with
      | normal =>
        obtain ⟨n', l3, hlt, hs, hI3⟩ := hq
        obtain ⟨e2, a2, w2, hq2, harr2⟩ := ih n' hlt a1 w1 ⟨l3, lab2, hI3, hR2.weaken hs⟩ b k cs
        exact ⟨e2, a2, w2, hq2, .of_steps (Steps.trans harr (.one step_inLoop)) harr2⟩
      | exit id => exact ⟨_, a1, w1, ⟨l2, lab2, hq, hR2⟩, .pass (x := .inLoop x) rfl (fun _ _ => .inl (by simp)) harr⟩
      | goto id => exact ⟨_, a1, w1, ⟨l2, lab2, hq, hR2⟩, .pass (x := .inLoop x) rfl (fun _ _ => .inl (by simp)) harr⟩
      | ret => exact ⟨_, a1, w1, ⟨l2, lab2, hq, hR2⟩, .pass (x := .inLoop x) rfl (fun _ _ => .inl (by simp)) harr⟩
      | panic ch => exact ⟨_, a1, w1, ⟨l2, lab2, hq, hR2⟩, .pass (x := .inLoop x) rfl (fun _ _ => .inl (by simp)) harr⟩
      | outgrown => exact ⟨_, a1, w1, ⟨l2, lab2, hq, hR2⟩, .pass (x := .inLoop x) rfl (fun _ _ => .inl (by simp)) harr⟩
  intro b k cs
  obtain ⟨e, a', w', hq, harr⟩ := key n a w ⟨l0, lab, hI0, hR.weaken hs0⟩ b k cs
  exact ⟨e, a', w', hq, .of_steps (.one step_loop) harr⟩

/-- What a guard says: the operation runs, or is passed over. -/
def guardSays (ops : Array Oper) (l : Env) (o : Oper) (runs : Bool) : Prop :=
  match o.guard with
  | none => runs = true
  | some (j, want) => (∃ t m b, (ops[j]?).bind (·.dst) = some t ∧ look l t = some (.val .bool m b) ∧ runs = (b == want)) ∨ (∃ t vs, (ops[j]?).bind (·.dst) = some t ∧ look l t = some (.tup vs) ∧ runs = false)

theorem wanted_of {ops : Array Oper} {a : Act} {w : World} {lab : Lab} {o : Oper} {runs : Bool} (hR : Rel c l a w lab) (h : guardSays ops l o runs) : Region.wanted o (yielded ops a.tmps) = runs := by
  unfold guardSays at h
  unfold Region.wanted
  split at h
  · rename_i hg; rw [hg, h]
  · rename_i j want hg
    rcases h with ⟨t, m, b, h1, h2, rfl⟩ | ⟨t, vs, h1, h2, rfl⟩
    · obtain ⟨u, hu, hrep⟩ := hR.vals _ _ (look_mem h2)
      have hr := hrep.rep
      simp only [rep, cellsOf, Ty.agg, List.cons.injEq, and_true] at hr
      subst hr
      have : yielded ops a.tmps j = some b := by simp [yielded, h1, hu]
      rw [hg]
      simp only [this]
      cases b <;> cases want <;> rfl
    · obtain ⟨us, hu, _⟩ := hR.vals _ _ (look_mem h2)
      have : yielded ops a.tmps j = none := by simp [yielded, h1, hu]
      rw [hg]
      simp only [this]
      rfl

/-- An operation that is passed over leaves nothing in its slot. -/
def deadOut : Out := ⟨[], some (.tup []), []⟩

structure okDst (c : Ctx) (o : Oper) : Prop where
  lt : ∀ d, o.dst = some d → d < c.n
  fix : ∀ d, o.dst = some d → ∀ k u, (k, u) ∈ c.fix → k ≠ d

/-- A state read otherwise. -/
def CastTo (c : Ctx) (l l2 : Env) : Prop := ∀ a w lab, Rel c l a w lab → ∃ lab', Rel c l2 a w lab'

/-- Operations one after the other. -/
inductive Runs (P : Program) (c : Ctx) (ops : Array Oper) : Env → List Oper → Env → Prop where
  | nil {l : Env} : Runs P c ops l [] l
  | cons {l : Env} {o : Oper} {os : List Oper} {out : Out} {l' : Env} (hg : guardSays ops l o true) (hs : SR P c l o out) (h : Runs P c ops (after l o.dst out) os l') : Runs P c ops l (o :: os) l'
  | pass {l : Env} {o : Oper} {os : List Oper} {l' : Env} (hg : guardSays ops l o false) (h : Runs P c ops (after l o.dst deadOut) os l') : Runs P c ops l (o :: os) l'
  | cast {l l1 : Env} {os : List Oper} {l' : Env} (hs : CastTo c l l1) (h : Runs P c ops l1 os l') : Runs P c ops l os l'

theorem after_dead {a : Act} {w : World} {lab : Lab} {o : Oper} (hR : Rel c l a w lab) (hd : DstOK c o) : Rel c (after l o.dst deadOut) (a.put o.dst undef) w lab := by
  cases hdst : o.dst with
  | none => simpa [after, applyUpd, Act.put, deadOut] using hR
  | some d => exact fin hR (hd.lt d hdst) (hd.fix d hdst) hR.fr (fun k _ _ => Keeps.refl lab w k) ⟨[], put_tmps_eq (by rw [hR.size]; exact hd.lt d hdst), rfl, fun i v hi => by simp at hi⟩

theorem runs_sound {ops : Array Oper} {QQ : Exit → Act → World → Prop} {os : List Oper} {l' : Env} (h : Runs P c ops l os l') (hd : ∀ o ∈ os, DstOK c o) :
    ∀ a w lab, Rel c l a w lab → (∀ a' w' lab', Rel c l' a' w' lab' → QQ .normal a' w') → wpList P ops QQ os a w := by
  induction h with
  | nil => exact fun a w lab hR hq => hq a w lab hR
  | cons hg hs _ ih =>
    intro a w lab hR hq
    simp only [wpList, wanted_of hR hg, if_true]
    refine .inl (Oper.wp_mono ?_ (hs _ (fun _ _ => rfl) a w lab hR (hd _ (List.mem_cons_self ..)) QQ))
    rintro a' w' ⟨lab', hR'⟩
    exact ih (fun o ho => hd o (List.mem_cons_of_mem _ ho)) a' w' lab' hR' hq
  | pass hg _ ih =>
    intro a w lab hR hq
    simp only [wpList, wanted_of hR hg]
    exact ih (fun o ho => hd o (List.mem_cons_of_mem _ ho)) _ w lab (after_dead hR (hd _ (List.mem_cons_self ..))) hq
  | cast hs _ ih => exact fun a w lab hR hq => let ⟨lab', hR'⟩ := hs a w lab hR; ih hd a w lab' hR' hq

/-- Which slots the operations write: all below n, none of those kept. -/
def dstsOK (n : Nat) (fx : List Nat) : List Oper → Bool
  | [] => true
  | o :: os => match o.dst with
    | none => dstsOK n fx os
    | some d => match Nat.blt d n with
      | true => match memb d fx with
        | false => dstsOK n fx os
        | true => false
      | false => false

theorem dstsOK_spec {c : Ctx} {fx : List Nat} (hfx : ∀ k u, (k, u) ∈ c.fix → k ∈ fx) : ∀ {os : List Oper}, dstsOK c.n fx os = true → ∀ o ∈ os, DstOK c o
  | [], _ => by simp
  | o :: os, h => by
    simp only [dstsOK] at h
    intro o' ho'
    split at h
    · rename_i hd
      rcases List.mem_cons.1 ho' with rfl | ho'
      · exact ⟨fun d hd' => by rw [hd] at hd'; simp at hd', fun d hd' => by rw [hd] at hd'; simp at hd'⟩
      · exact dstsOK_spec hfx h o' ho'
    · rename_i d hd
      split at h
      case h_2 => simp at h
      rename_i hlt
      split at h
      case h_2 => simp at h
      rename_i hm
      rcases List.mem_cons.1 ho' with rfl | ho'
      · exact ⟨fun d' hd' => by rw [hd] at hd'; cases hd'; simpa [Nat.blt_eq] using hlt, fun d' hd' k u hk he => by rw [hd] at hd'; cases hd'; exact memb_false hm (he ▸ hfx k u hk)⟩
      · exact dstsOK_spec hfx h o' ho'

/-- A region in the order of its text. -/
theorem AW.region {id : Nat} {os : List Oper} {l' : Env} (hd : ∀ o ∈ os, DstOK c o) (h : Runs P c os.toArray l os l') (hq : Q .normal l') : AW P c (.region id os.toArray false) Q l := fun a w lab hR =>
  wp_region_lit (runs_sound h hd a w lab hR fun _ _ lab' hR' => ⟨l', lab', hq, hR'⟩)

end
end Go.Abs
