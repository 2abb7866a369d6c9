/- The framework: walks of code that keep plain values. -/
import Derived.Test.YtoaajjhcdbbfdaaFwT
import Derived.Test.YtoaajjhcdbbfdaaFwU
set_option linter.unusedSimpArgs false
set_option linter.unnecessarySimpa false
set_option linter.unusedVariables false
namespace Go.Abs

inductive Lp (σ ρ : Type) where
  | more (s : σ)
  | done (z : ρ)

inductive Ex (σ ρ : Type) where
  | fall (s : σ)
  | out (z : ρ)

def Ex.cont {σ ρ : Type} (f : σ → Option ρ) : Ex σ ρ → Option ρ
  | .fall s => f s
  | .out z => some z

inductive Loops {σ ρ : Type} (f : σ → Option (Lp σ ρ)) : σ → ρ → Prop where
  | done {s : σ} {z : ρ} (h : f s = some (.done z)) : Loops f s z
  | more {s s' : σ} {z : ρ} (h : f s = some (.more s')) (hs : Loops f s' z) : Loops f s z

theorem Loops.det {σ ρ : Type} {f : σ → Option (Lp σ ρ)} {s : σ} {z z' : ρ} (h : Loops f s z) (h' : Loops f s z') : z = z' := by
  induction h with
  | done h => cases h' with
    | done h2 => rw [h] at h2; cases h2; rfl
    | more h2 _ => rw [h] at h2; cases h2
  | more h _ ih => cases h' with
    | done h2 => rw [h] at h2; cases h2
    | more h2 h3 => rw [h] at h2; cases h2; exact ih h3

open Classical in
noncomputable def loopO {σ ρ : Type} (f : σ → Option (Lp σ ρ)) (s : σ) : Option ρ := if h : ∃ z, Loops f s z then some h.choose else none

theorem loop_iff {σ ρ : Type} {f : σ → Option (Lp σ ρ)} {s : σ} {z : ρ} : loopO f s = some z ↔ Loops f s z := by
  unfold loopO
  constructor
  · intro h
    split at h
    · rename_i hz
      cases h
      exact hz.choose_spec
    · cases h
  · intro h
    have hz : ∃ z, Loops f s z := ⟨z, h⟩
    rw [dif_pos hz]
    exact congrArg some (hz.choose_spec.det h)

def idx {α : Type} (xs : List α) (i : Int) : Option α := if 0 ≤ i then xs[i.toNat]? else none
def app {α : Type} (xs ys : List α) : Option (List α) := if xs.length + ys.length ≤ 17179869184 then some (xs ++ ys) else none
def mkS {α : Type} (z : α) (n : Int) : Option (List α) := if 0 ≤ n ∧ n ≤ 17179869184 then some (List.replicate n.toNat z) else none
/-- A part of a list; 'none' beyond its end (what lies behind a shared slice's end is not told). -/
def cut {α : Type} (xs : List α) (lo hi : Int) : Option (List α) := if 0 ≤ lo ∧ lo ≤ hi ∧ hi ≤ xs.length then some ((xs.drop lo.toNat).take (hi - lo).toNat) else none
def cat (a b : List UInt8) : Option (List UInt8) := if a.length + b.length ≤ 17179869184 then some (a ++ b) else none
def need (p : Prop) [Decidable p] : Option Unit := if p then some () else none
abbrev w64 (x : Int) : Int := IntKind.i64.wrap x

theorem bindE {α β : Type} {x : Option α} {f : α → Option β} {r : β} (h : x.bind f = some r) : ∃ a, x = some a ∧ f a = some r := Option.bind_eq_some_iff.1 h
theorem idx_nn {α : Type} {xs : List α} {i : Int} {y : α} (h : idx xs i = some y) : 0 ≤ i := by unfold idx at h; split at h <;> simp_all
theorem idx_get {α : Type} {xs : List α} {i : Int} {y : α} (h : idx xs i = some y) : xs[i.toNat]? = some y := by unfold idx at h; split at h <;> simp_all
theorem idx_lt {α : Type} {xs : List α} {i : Int} {y : α} (h : idx xs i = some y) : i.toNat < xs.length := (List.getElem?_eq_some_iff.1 (idx_get h)).1
theorem app_len {α : Type} {xs ys zs : List α} (h : app xs ys = some zs) : xs.length + ys.length ≤ 17179869184 := by unfold app at h; split at h <;> simp_all
theorem app_eq {α : Type} {xs ys zs : List α} (h : app xs ys = some zs) : xs ++ ys = zs := by unfold app at h; split at h <;> simp_all
theorem mkS_nn {α : Type} {z : α} {n : Int} {zs : List α} (h : mkS z n = some zs) : 0 ≤ n := by unfold mkS at h; split at h <;> simp_all
theorem mkS_le {α : Type} {z : α} {n : Int} {zs : List α} (h : mkS z n = some zs) : n ≤ 17179869184 := by unfold mkS at h; split at h <;> simp_all
theorem mkS_eq {α : Type} {z : α} {n : Int} {zs : List α} (h : mkS z n = some zs) : List.replicate n.toNat z = zs := by unfold mkS at h; split at h <;> simp_all
theorem cat_len {a b r : List UInt8} (h : cat a b = some r) : a.length + b.length ≤ 17179869184 := by unfold cat at h; split at h <;> simp_all
theorem cat_eq {a b r : List UInt8} (h : cat a b = some r) : a ++ b = r := by unfold cat at h; split at h <;> simp_all
theorem cut_eq {α : Type} {xs ys : List α} {lo hi : Int} (h : cut xs lo hi = some ys) : (0 ≤ lo ∧ lo ≤ hi ∧ hi ≤ xs.length) ∧ ys = (xs.drop lo.toNat).take (hi - lo).toNat := by unfold cut at h; split at h <;> simp_all
theorem needE {p : Prop} [Decidable p] {u : Unit} (h : need p = some u) : p := by unfold need at h; split at h <;> simp_all

theorem sub_app {p q : Path} {t t' t2 : Ty} {x : den t} {x' : den t'} {x2 : den t2} (h1 : sub p t x = some ⟨t', x'⟩) (h2 : sub q t' x' = some ⟨t2, x2⟩) : sub (p ++ q) t x = some ⟨t2, x2⟩ := by
  induction p generalizing t with
  | nil => simp only [sub, Option.some.injEq, Sigma.mk.injEq] at h1; obtain ⟨rfl, h⟩ := h1; cases h; exact h2
  | cons s p ih =>
    cases s <;> cases t <;> try (exact ih h1)
    all_goals try (cases h1; done)
    case e.slc =>
      simp only [sub, List.cons_append] at h1 ⊢
      split at h1
      · exact ih h1
      · cases h1

theorem sub_e {t : Ty} {xs : List (den t)} {i : Nat} {y : den t} (h : xs[i]? = some y) : sub [.e i] (.slc t) xs = some ⟨t, y⟩ := by simp [sub, h]

theorem repl_e {t : Ty} {xs : List (den t)} {i : Nat} {y z : den t} (h : xs[i]? = some y) : repl [.e i] (.slc t) xs t z = some ⟨.slc t, xs.set i z⟩ := by
  simp only [repl, h]
  cases hd : decEq t t with
  | isTrue h => rfl
  | isFalse h => exact absurd rfl h

theorem repl_app {p q : Path} {t t' s t2 t3 : Ty} {x : den t} {x' : den t'} {y : den s} {x2 : den t2} {x3 : den t3} (h1 : sub p t x = some ⟨t', x'⟩) (h2 : repl q t' x' s y = some ⟨t2, x2⟩) (h3 : repl p t x t2 x2 = some ⟨t3, x3⟩) : repl (p ++ q) t x s y = some ⟨t3, x3⟩ := by
  induction p generalizing t t3 with
  | nil =>
    simp only [sub, Option.some.injEq, Sigma.mk.injEq] at h1
    obtain ⟨rfl, h⟩ := h1
    cases h
    simp only [repl, Option.some.injEq, Sigma.mk.injEq] at h3
    obtain ⟨rfl, h⟩ := h3
    cases h
    exact h2
  | cons st p ih =>
    cases st <;> cases t <;> simp only [sub, repl, List.cons_append] at h1 h3 ⊢ <;> try (cases h1; done)
    case l.prod | r.prod | d.ptr =>
      split at h3
      · rename_i z hz
        rw [ih h1 hz]
        exact h3
      · cases h3
    case e.slc =>
      split at h1
      · rename_i z hz
        rw [hz] at h3 ⊢
        simp only at h3 ⊢
        cases hz2 : repl p _ z t2 x2 with
        | none => rw [hz2] at h3; cases h3
        | some w =>
          rw [hz2] at h3
          rw [ih h1 hz2]
          exact h3
      · cases h1

section
variable {P : Program} {c : Ctx} {l : Env} {Q : Exit → Env → Prop}

theorem AW.ifP {ρ : Type} {A B : Option ρ} {z : ρ} {q : Operand} {x y : Code} {k : Option Nat} {m : Nat} {b : Bool} (hv : view l q = some (.val k .bool m b)) (h : (if b = true then A else B) = some z) (ht : A = some z → AW P c x Q l) (hf : B = some z → AW P c y Q l) : AW P c (.cond q x y) Q l :=
  AW.cond hv (fun hb => ht (by subst hb; simpa using h)) (fun hb => hf (by subst hb; simpa using h))

theorem RT.ifP {ops : Array Oper} {ρ : Type} {A B : Option ρ} {z : ρ} {o : Oper} {os : List Oper} {K : Env → Prop} {x : Operand} {k : Option Nat} {m : Nat} {b : Bool} (ho : o.op = .move x ∨ o.op = .assign x) (hv : view l x = some (.val k .bool m b)) (hg : guardSays ops l o true)
    (h : (if b = true then A else B) = some z)
    (ht : A = some z → RT P c ops (after l o.dst ⟨(OV.val k .bool m b).rd, some (.val .bool 0 true), []⟩) os K) (hf : B = some z → RT P c ops (after l o.dst ⟨(OV.val k .bool m b).rd, some (.val .bool 0 false), []⟩) os K) : RT P c ops l (o :: os) K :=
  RT.splitB ho hv hg (fun hb => ht (by subst hb; simpa using h)) (fun hb => hf (by subst hb; simpa using h))

theorem DT.ifP {ops : Array Oper} {ρ : Type} {A B : Option ρ} {z : ρ} {n : Nat} {done : List (Nat × Item P c ops)} {o : Oper} {os : List Oper} {K : Env → Prop} {x : Operand} {k : Option Nat} {m : Nat} {b : Bool} (ho : o.op = .move x ∨ o.op = .assign x) (hv : view l x = some (.val k .bool m b)) (hg : guardSays ops l o true)
    (hw : ∀ r, wfO o.dst ⟨(OV.val k .bool m b).rd, some (.val .bool 0 r), []⟩ = true) (hc : closedAt l (guardTmp ops o ++ (OV.val k .bool m b).rd) (guardTmp ops o ++ (OV.val k .bool m b).rd) = true)
    (h : (if b = true then A else B) = some z)
    (ht : A = some z → DT P c ops (n + 1) ((n, ⟨o, ⟨(OV.val k .bool m b).rd, some (.val .bool 0 true), []⟩, guardTmp ops o ++ (OV.val k .bool m b).rd, true⟩) :: done) (after l o.dst ⟨(OV.val k .bool m b).rd, some (.val .bool 0 true), []⟩) os K)
    (hf : B = some z → DT P c ops (n + 1) ((n, ⟨o, ⟨(OV.val k .bool m b).rd, some (.val .bool 0 false), []⟩, guardTmp ops o ++ (OV.val k .bool m b).rd, true⟩) :: done) (after l o.dst ⟨(OV.val k .bool m b).rd, some (.val .bool 0 false), []⟩) os K) : DT P c ops n done l (o :: os) K :=
  DT.splitB ho hv hg hw hc (fun hb => ht (by subst hb; simpa using h)) (fun hb => hf (by subst hb; simpa using h))

/-- The end of a round told by the pure body's value. -/
def roundP {σ ρ : Type} (env : σ → Env) (y : Lp σ ρ) (z : ρ) (Q : Exit → Env → Prop) : Exit → Env → Prop
  | .normal, l => ∃ s', y = .more s' ∧ Sub (env s') l
  | e, l => ∃ w, y = .done w ∧ (w = z → Q e l)

theorem AW.loopP0 {σ ρ : Type} {f : σ → Option (Lp σ ρ)} {s0 : σ} {z : ρ} (h : loopO f s0 = some z) {x : Code} (env : σ → Env) (hs : Sub (env s0) l) (body : ∀ s y, f s = some y → AW P c x (roundP env y z Q) (env s)) : AW P c (.loop x) Q l := by
  have key : ∀ s z, Loops f s z → ∀ Q, (∀ s y, f s = some y → AW P c x (roundP env y z Q) (env s)) → ∀ a w lab, Rel c (env s) a w lab → ∀ (b : Frame) (k : List Go.Item) (cs : List Frame),
      ∃ e a' w', (∃ l' lab', Q e l' ∧ Rel c l' a' w' lab') ∧ Arrives P (lone (b.at a (.code x :: .inLoop x :: k)) cs w) b k cs e a' w' := by
    intro s z hl
    induction hl with
    | @done s z hf =>
      intro Q body a w lab hR1 b k cs
      obtain ⟨e, a1, w1, ⟨l2, lab2, hq, hR2⟩, harr⟩ := body s _ hf a w lab hR1 b (.inLoop x :: k) cs
      cases e with
      | normal => obtain ⟨s', hy, _⟩ := hq; cases hy
      | exit id => obtain ⟨w2, hy, hq⟩ := hq; cases hy; exact ⟨_, a1, w1, ⟨l2, lab2, hq rfl, hR2⟩, .pass (x := .inLoop x) rfl (fun _ _ => .inl (by simp)) harr⟩
      | goto id => obtain ⟨w2, hy, hq⟩ := hq; cases hy; exact ⟨_, a1, w1, ⟨l2, lab2, hq rfl, hR2⟩, .pass (x := .inLoop x) rfl (fun _ _ => .inl (by simp)) harr⟩
      | ret => obtain ⟨w2, hy, hq⟩ := hq; cases hy; exact ⟨_, a1, w1, ⟨l2, lab2, hq rfl, hR2⟩, .pass (x := .inLoop x) rfl (fun _ _ => .inl (by simp)) harr⟩
      | panic ch => obtain ⟨w2, hy, hq⟩ := hq; cases hy; exact ⟨_, a1, w1, ⟨l2, lab2, hq rfl, hR2⟩, .pass (x := .inLoop x) rfl (fun _ _ => .inl (by simp)) harr⟩
      | outgrown => obtain ⟨w2, hy, hq⟩ := hq; cases hy; exact ⟨_, a1, w1, ⟨l2, lab2, hq rfl, hR2⟩, .pass (x := .inLoop x) rfl (fun _ _ => .inl (by simp)) harr⟩
    | @more s s1 z hf hl ih =>
      intro Q body a w lab hR1 b k cs
      obtain ⟨e, a1, w1, ⟨l2, lab2, hq, hR2⟩, harr⟩ := body s _ hf a w lab hR1 b (.inLoop x :: k) cs
      cases e with
      | normal =>
        obtain ⟨s', hy, hsub⟩ := hq
        cases hy
        obtain ⟨e2, a2, w2, hq2, harr2⟩ := ih Q body a1 w1 lab2 (hR2.weaken hsub.sub) b k cs
        exact ⟨e2, a2, w2, hq2, .of_steps (Steps.trans harr (.one step_inLoop)) harr2⟩
      | exit id => obtain ⟨w2, hy, _⟩ := hq; cases hy
      | goto id => obtain ⟨w2, hy, _⟩ := hq; cases hy
      | ret => obtain ⟨w2, hy, _⟩ := hq; cases hy
      | panic ch => obtain ⟨w2, hy, _⟩ := hq; cases hy
      | outgrown => obtain ⟨w2, hy, _⟩ := hq; cases hy
  intro a w lab hR b k cs
  obtain ⟨e, a', w', hq, harr⟩ := key s0 z (loop_iff.1 h) Q body a w lab (hR.weaken hs.sub) b k cs
  exact ⟨e, a', w', hq, .of_steps (.one step_loop) harr⟩

/-- A loop: what stands (l0) and what each round changes (env). -/
theorem AW.loopP {σ ρ : Type} {f : σ → Option (Lp σ ρ)} {s0 : σ} {z : ρ} (h : loopO f s0 = some z) {x : Code} (l0 : Env) (_ : Sub l0 l) (env : σ → Env) (hs : Sub (env s0 ++ l0) l) (body : ∀ s y, f s = some y → AW P c x (roundP (fun s => env s ++ l0) y z Q) (env s ++ l0)) : AW P c (.loop x) Q l :=
  AW.loopP0 h (fun s => env s ++ l0) hs body

def fallQ {σ ρ : Type} (z : Ex σ ρ) (env : σ → Env) (Q : Exit → Env → Prop) : Exit → Env → Prop
  | .normal, l => ∃ s, z = .fall s ∧ Sub (env s) l
  | e, l => Q e l

/-- The first part told by a pure value that falls through or leaves. -/
theorem AW.seqX {σ ρ : Type} {x y : Code} (z : Ex σ ρ) (l0 : Env) (_ : Sub l0 l) (env : σ → Env) (hx : AW P c x (fallQ z (fun s => env s ++ l0) Q) l) (hy : ∀ s, z = .fall s → AW P c y Q (env s ++ l0)) : AW P c (.seq x y) Q l := by
  refine AW.seq (hx.mono fun e l hq => ?_)
  cases e with
  | normal => obtain ⟨s, hz, hs⟩ := hq; exact (hy s hz).weaken hs.sub
  | _ => exact hq

def joinQ (m : Env) (Q : Exit → Env → Prop) : Exit → Env → Prop
  | .normal, l => Sub m l
  | e, l => Q e l

theorem AW.seqJ {x y : Code} (l0 : Env) (_ : Sub l0 l) (m : Env) (hx : AW P c x (joinQ (m ++ l0) Q) l) (hy : AW P c y Q (m ++ l0)) : AW P c (.seq x y) Q l := by
  refine AW.seq (hx.mono fun e l hq => ?_)
  cases e with
  | normal => exact hy.weaken (Sub.sub hq)
  | _ => exact hq

end
end Go.Abs
