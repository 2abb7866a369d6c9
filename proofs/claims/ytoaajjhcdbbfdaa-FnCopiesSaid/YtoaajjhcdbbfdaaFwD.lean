/- The framework: walks of code that keep plain values. -/
import Derived.Test.YtoaajjhcdbbfdaaFwC
set_option linter.unusedSimpArgs false
set_option linter.unnecessarySimpa false
set_option linter.unusedVariables false
namespace Go.Abs

inductive OV where
  | val (k : Option Nat) (t : Ty) (m : Nat) (x : den t)
  | ref (k r : Nat) (p : Path) (t : Ty) (m : Nat) (x : den t)
  | place (k r : Nat) (p : Path) (t : Ty) (m : Nat) (x : den t)
  | tup (k : Nat) (vs : List (Option V))

def cval : Value → Option OV
  | .int k n => some (.val none (.int k) 0 n)
  | .bool b => some (.val none .bool 0 b)
  | .string s => some (.val none .str 0 s.data.toList)
  | .slice none 0 0 => some (.val none .raw 0 (.slice none 0 0))
  | .nilFunc => some (.val none .raw 0 .nilFunc)
  | .pointer none => some (.val none .raw 0 (.pointer none))
  | _ => none

def view (l : Env) : Operand → Option OV
  | .const v => cval v
  | .func f => some (.val none .raw 0 (.func (.func f) #[] #[]))
  | .global _ => none
  | .tmp k => match look l k with
    | some (.val t m x) => some (.val (some k) t m x)
    | some (.ref r p) => match look l r with
      | some (.val t m x) => some (.ref k r p t m x)
      | _ => none
    | some (.place r p) => match look l r with
      | some (.val t m x) => some (.place k r p t m x)
      | _ => none
    | some (.tup vs) => some (.tup k vs)
    | _ => none

def OV.rd : OV → List Nat
  | .val none _ _ _ => []
  | .val (some k) _ _ _ => [k]
  | .ref k r _ _ _ _ => [k, r]
  | .place k r _ _ _ _ => [k, r]
  | .tup k _ => [k]

/-- An operand is seen so. -/
def Seen (l : Env) (o : Operand) : OV → Prop
  | .val none t m x => (∀ a : Act, ∀ lab w r p m', repV lab w t m' x (a.eval o) r p) ∧ m = 0
  | .val (some k) t m x => o = .tmp k ∧ (k, AX.val t m x) ∈ l
  | .ref k r p t m x => o = .tmp k ∧ (k, AX.ref r p) ∈ l ∧ (r, AX.val t m x) ∈ l
  | .place k r p t m x => o = .tmp k ∧ (k, AX.place r p) ∈ l ∧ (r, AX.val t m x) ∈ l
  | .tup k vs => o = .tmp k ∧ (k, AX.tup vs) ∈ l

theorem repV_lone {lab : Lab} {w : World} {t : Ty} {m : Nat} {x : den t} {u : Value} {r : Nat} {p : Path} (hn : t.agg = false) (h : rep lab w t m x [u] r p) : repV lab w t m x u r p :=
  ⟨fun ht => by simp [hn] at ht, by simpa [cellsOf, hn] using h⟩

theorem seen_of_view {l : Env} {o : Operand} {ov : OV} (h : view l o = some ov) : Seen l o ov := by
  cases o with
  | const v =>
    simp only [view] at h
    unfold cval at h
    split at h <;> first | (obtain rfl := Option.some.inj h; exact ⟨fun a lab w r p m' => repV_lone rfl (by simp [rep, Act.eval, Value.oneCell']), rfl⟩) | exact absurd h (by simp)
  | func f =>
    simp only [view] at h
    obtain rfl := Option.some.inj h
    exact ⟨fun a lab w r p m' => repV_lone rfl (by simp [rep, Act.eval, Value.oneCell']), rfl⟩
  | global g => simp [view] at h
  | tmp k =>
    simp only [view] at h
    split at h
    · rename_i hk; obtain rfl := Option.some.inj h; exact ⟨rfl, look_mem hk⟩
    · rename_i hk
      split at h
      · rename_i hr; obtain rfl := Option.some.inj h; exact ⟨rfl, look_mem hk, look_mem hr⟩
      · simp at h
    · rename_i hk
      split at h
      · rename_i hr; obtain rfl := Option.some.inj h; exact ⟨rfl, look_mem hk, look_mem hr⟩
      · simp at h
    · rename_i hk; obtain rfl := Option.some.inj h; exact ⟨rfl, look_mem hk⟩
    · simp at h

theorem eval_tmp {a : Act} {k : Nat} {u : Value} (h : a.tmps[k]? = some u) : a.eval (.tmp k) = u := by simp [Act.eval, Array.getD_eq_getD_getElem?, h]

/-- Owned by nobody: freely copied. -/
def free (t : Ty) (m : Nat) : Bool := match m with | 0 => true | _ + 1 => Nat.beq t.depth 0

theorem repV_free {lab : Lab} {w : World} {t : Ty} {m : Nat} {x : den t} {u : Value} {r : Nat} {p : Path} (hf : free t m = true) (h : repV lab w t m x u r p) (r' : Nat) (p' : Path) : repV lab w t 0 x u r' p' := by
  refine ⟨h.shape, ?_⟩
  cases m with
  | zero => exact rep_shared h.rep
  | succ m => exact rep_flat (Nat.eq_of_beq_eq_true hf) h.rep

def memb (k : Nat) : List Nat → Bool
  | [] => false
  | j :: l => match Nat.beq j k with | true => true | false => memb k l

theorem memb_false {k : Nat} : ∀ {l : List Nat}, memb k l = false → k ∉ l
  | [], _ => by simp
  | j :: l, h => by
    simp only [memb] at h
    split at h
    · simp at h
    · rename_i hj
      exact fun hk => by
        rcases List.mem_cons.1 hk with rfl | hk
        · exact Nat.ne_of_beq_eq_false hj rfl
        · exact memb_false h hk

/-- A datum with a part moved out. -/
def holeAt : (p : Path) → (t : Ty) → den t → Option ((t2 : Ty) × den t2)
  | [], .slc _, _ => some ⟨.hole, ()⟩
  | .e i :: p, .slc t, xs => match xs[i]? with
    | some x => match holeAt p t x with
      | some ⟨t2, z⟩ => match decEq t2 t with
        | .isTrue h => some ⟨.slc t, xs.set i (h ▸ z)⟩
        | .isFalse _ => none
      | none => none
    | none => none
  | .l :: p, .prod a b, x => match holeAt p a x.1 with | some ⟨a2, z⟩ => some ⟨.prod a2 b, (z, x.2)⟩ | none => none
  | .r :: p, .prod a b, x => match holeAt p b x.2 with | some ⟨b2, z⟩ => some ⟨.prod a b2, (x.1, z)⟩ | none => none
  | .d :: p, .ptr t, x => match holeAt p t x with | some ⟨t2, z⟩ => some ⟨.ptr t2, z⟩ | none => none
  | _, _, _ => none

/-- What is taken at an operand, and what becomes of the roots: 'mv' lists the temporaries whose reference is a move. -/
def take (mv : List Nat) : OV → Option (V × List (Nat × Option AX))
  | .val none t _ x => some (⟨t, 0, x⟩, [])
  | .val (some k) t m x => match free t m with
    | true => some (⟨t, 0, x⟩, [])
    | false => some (⟨t, m, x⟩, [(k, none)])
  | .ref k r p t m x => match sub p t x with
    | some ⟨t', x'⟩ => match memb k mv with
      | true => match p with
        | [] => some (⟨t', m - dep p, x'⟩, [(r, none)])
        | _ :: _ => match holeAt p t x with
          | some ⟨t2, x2⟩ => some (⟨t', m - dep p, x'⟩, [(r, some (.val t2 m x2))])
          | none => some (⟨t', m - dep p, x'⟩, [(r, none)])
      | false => some (⟨t', 0, x'⟩, [(r, some (.val t (min m (dep p)) x))])
    | none => none
  | _ => none

def strip : Path → Path → Option Path
  | [], q => some q
  | s :: p, s' :: q => if s = s' then strip p q else none
  | _ :: _, [] => none

theorem strip_append (p q : Path) : strip p (p ++ q) = some q := by induction p <;> simp [strip, *]

def moveLab (lab : Lab) (r : Nat) (p : Path) (i : Nat) : Lab := fun b => match lab b with
  | some (r', q) => if r' = r then (match strip p q with | some q' => some (i, q') | none => some (r', q)) else some (r', q)
  | none => none

theorem moveLab_keep {lab : Lab} {w : World} {r i k : Nat} {p : Path} (h : k ≠ r) : Keeps lab (moveLab lab r p i) w w k :=
  ⟨fun b _ hl => ⟨by simp [moveLab, hl], rfl⟩, fun b q _ hl => ⟨by simp only [List.nil_append] at hl; simp [moveLab, hl, h, lessThan], rfl⟩⟩

theorem moveLab_xfer {lab : Lab} {w : World} {r i : Nat} {p : Path} : Xfer lab (moveLab lab r p i) w w r p i [] none :=
  ⟨fun b _ hl => ⟨by simp [moveLab, hl], rfl⟩, fun b q _ hl => ⟨by simp [moveLab, hl, strip_append, lessThan], rfl⟩⟩

theorem strip_none : ∀ {p q : Path} {s s' : Step} {z : Path}, s ≠ s' → strip (p ++ s :: q) (p ++ s' :: z) = none
  | [], q, s, s', z, h => by simp [strip, h]
  | a :: p, q, s, s', z, h => by simp only [List.cons_append, strip, if_true]; exact strip_none h

theorem strip_short : ∀ {p q : Path} {s : Step}, strip (p ++ s :: q) p = none
  | [], q, s => rfl
  | a :: p, q, s => by simp only [List.cons_append, strip, if_true]; exact strip_short

theorem rep_hole {lab : Lab} {w : World} {i : Nat} : ∀ {q : Path} {t : Ty} {m : Nat} {x : den t} {us : List Value} {r : Nat} {p : Path} {t2 : Ty} {x2 : den t2},
    rep lab w t m x us r p → holeAt q t x = some ⟨t2, x2⟩ → rep (moveLab lab r (p ++ q) i) w t2 m x2 us r p ∧ t2.cells = t.cells := by
  intro q
  have other : ∀ {r : Nat} {p q : Path} {s s' : Step}, s ≠ s' → Xfer lab (moveLab lab r (p ++ s :: q) i) w w r (p ++ [s']) r (p ++ [s']) none := fun {r p q s s'} hne =>
    ⟨fun b _ hl => ⟨by simp [moveLab, hl], rfl⟩, fun b z _ hl => ⟨by
      simp only [moveLab, hl, if_true, List.append_assoc, List.cons_append, List.nil_append, strip_none hne, lessThan], rfl⟩⟩
  induction q with
  | nil =>
    intro t m x us r p t2 x2 h hh
    cases t with
    | slc t =>
      simp only [holeAt, Option.some.injEq, Sigma.mk.injEq] at hh
      obtain ⟨rfl, _⟩ := hh
      simp only [rep] at h
      obtain ⟨b, cp, rfl, _⟩ := h
      exact ⟨⟨_, rfl, rfl⟩, rfl⟩
    | _ => simp [holeAt] at hh
  | cons st q ih =>
    intro t m x us r p t2 x2 h hh
    cases st with
    | l =>
      cases t with
      | prod a b =>
        simp only [holeAt] at hh
        split at hh
        · rename_i a2 z hz
          simp only [Option.some.injEq, Sigma.mk.injEq] at hh
          obtain ⟨rfl, hh⟩ := hh
          have hh := eq_of_heq hh
          subst hh
          simp only [rep] at h ⊢
          obtain ⟨u1, u2, rfl, h1, h2, h3⟩ := h
          obtain ⟨h4, h5⟩ := ih h2 hz
          exact ⟨⟨u1, u2, rfl, by rw [h1, h5], by simpa using h4, rep_xfer h3 (other (by simp))⟩, by simp [Ty.cells, h5]⟩
        · simp at hh
      | _ => simp [holeAt] at hh
    | r =>
      cases t with
      | prod a b =>
        simp only [holeAt] at hh
        split at hh
        · rename_i b2 z hz
          simp only [Option.some.injEq, Sigma.mk.injEq] at hh
          obtain ⟨rfl, hh⟩ := hh
          have hh := eq_of_heq hh
          subst hh
          simp only [rep] at h ⊢
          obtain ⟨u1, u2, rfl, h1, h2, h3⟩ := h
          obtain ⟨h4, h5⟩ := ih h3 hz
          exact ⟨⟨u1, u2, rfl, h1, rep_xfer h2 (other (by simp)), by simpa using h4⟩, by simp [Ty.cells, h5]⟩
        · simp at hh
      | _ => simp [holeAt] at hh
    | e j =>
      cases t with
      | slc t =>
        simp only [holeAt] at hh
        split at hh
        case h_2 => simp at hh
        rename_i y hy
        split at hh
        case h_2 => simp at hh
        rename_i t3 z hz
        split at hh
        case h_2 => simp at hh
        rename_i ht _
        subst ht
        simp only [Option.some.injEq, Sigma.mk.injEq] at hh
        obtain ⟨rfl, hh⟩ := hh
        have hh := eq_of_heq hh
        subst hh
        obtain ⟨hj, rfl⟩ := List.getElem?_eq_some_iff.1 hy
        refine ⟨?_, rfl⟩
        simp only [rep] at h ⊢
        obtain ⟨base, cap, rfl, hc, hm, h⟩ := h
        refine ⟨base, cap, by simp, by simpa using hc, hm, ?_⟩
        rcases h with ⟨_, h, _⟩ | ⟨g, off, cur, e, fz, rfl, hg, hsz, ho, hr⟩
        · subst h; simp at hj
        · refine .inr ⟨g, off, cur, e, fz, rfl, hg, by simpa using hsz, ?_, fun i' hi' => ?_⟩
          · rcases ho with ⟨h6, h7⟩ | ⟨h6, h7, h8⟩
            · exact .inl ⟨h6, by simp [moveLab, h7]⟩
            · exact .inr ⟨h6, by simp [moveLab, h7, strip_short], h8⟩
          · rw [List.getElem_set]
            split
            · rename_i he
              subst he
              have := (ih (hr j hj) hz).1
              simpa using this
            · rename_i he
              exact rep_xfer (hr i' (by simpa using hi')) (by simpa [lowerBy] using (other (r := r) (p := p) (q := q) (s := .e j) (s' := .e i') (by simpa using he)))
      | _ => simp [holeAt] at hh
    | d =>
      cases t with
      | ptr t =>
        simp only [holeAt] at hh
        split at hh
        · rename_i t3 z hz
          simp only [Option.some.injEq, Sigma.mk.injEq] at hh
          obtain ⟨rfl, hh⟩ := hh
          have hh := eq_of_heq hh
          subst hh
          simp only [rep] at h ⊢
          obtain ⟨g, off, cur, e, fz, rfl, hg, hsz, ho, hr⟩ := h
          obtain ⟨h4, h5⟩ := ih hr hz
          refine ⟨⟨g, off, cur, e, fz, rfl, hg, by rw [h5]; exact hsz, ?_, by rw [h5]; simpa using h4⟩, rfl⟩
          rcases ho with ⟨h6, h7⟩ | ⟨h6, h7, h8⟩
          · exact .inl ⟨h6, by simp [moveLab, h7]⟩
          · exact .inr ⟨h6, by simp [moveLab, h7, strip_short], by rw [h5]; exact h8⟩
        · simp at hh
      | _ => simp [holeAt] at hh

theorem holeAt_agg : ∀ {p : Path} {t : Ty} {x : den t} {t2 : Ty} {x2 : den t2}, p ≠ [] → holeAt p t x = some ⟨t2, x2⟩ → t2.agg = t.agg := by
  intro p t x t2 x2 hp hh
  cases p with
  | nil => exact absurd rfl hp
  | cons st q =>
    cases st with
    | e i =>
      cases t with
      | slc t =>
        simp only [holeAt] at hh
        split at hh
        case h_2 => simp at hh
        split at hh
        case h_2 => simp at hh
        split at hh
        case h_2 => simp at hh
        simp only [Option.some.injEq, Sigma.mk.injEq] at hh
        obtain ⟨rfl, _⟩ := hh
        rfl
      | _ => simp [holeAt] at hh
    | l =>
      cases t with
      | prod a b =>
        simp only [holeAt] at hh
        split at hh
        · simp only [Option.some.injEq, Sigma.mk.injEq] at hh
          obtain ⟨rfl, _⟩ := hh
          rfl
        · simp at hh
      | _ => simp [holeAt] at hh
    | r =>
      cases t with
      | prod a b =>
        simp only [holeAt] at hh
        split at hh
        · simp only [Option.some.injEq, Sigma.mk.injEq] at hh
          obtain ⟨rfl, _⟩ := hh
          rfl
        · simp at hh
      | _ => simp [holeAt] at hh
    | d =>
      cases t with
      | ptr t =>
        simp only [holeAt] at hh
        split at hh
        · simp only [Option.some.injEq, Sigma.mk.injEq] at hh
          obtain ⟨rfl, _⟩ := hh
          rfl
        · simp at hh
      | _ => simp [holeAt] at hh

def freezeLab (lab : Lab) (r : Nat) (n : Nat) : Lab := fun b => match lab b with
  | some (r', q) => if r' = r then (if dep q < n then some (r', q) else none) else some (r', q)
  | none => none

theorem freezeLab_keep {lab : Lab} {w : World} {r k n : Nat} (h : k ≠ r) : Keeps lab (freezeLab lab r n) w w k :=
  ⟨fun b _ hl => ⟨by simp [freezeLab, hl], rfl⟩, fun b q _ hl => ⟨by simp only [List.nil_append] at hl; simp [freezeLab, hl, h, lessThan], rfl⟩⟩

theorem freezeLab_self {lab : Lab} {w : World} {r n : Nat} : Xfer lab (freezeLab lab r n) w w r [] r [] (some n) :=
  ⟨fun b _ hl => ⟨by simp [freezeLab, hl], rfl⟩, fun b q _ hl => ⟨by simp only [List.nil_append] at hl; simp [freezeLab, hl, lessThan], rfl⟩⟩

theorem freezeLab_part {lab : Lab} {w : World} {r i : Nat} {p : Path} : Xfer lab (freezeLab lab r (dep p)) w w r p i [] (some 0) :=
  ⟨fun b _ hl => ⟨by simp [freezeLab, hl], rfl⟩, fun b q _ hl => ⟨by
    have hd := dep_append p q
    simp only [freezeLab, hl, if_true]
    rw [if_neg (by omega)]
    simp [lessThan], rfl⟩⟩

def keys (up : List (Nat × Option AX)) : List Nat := up.map (·.1)

theorem Fr.ghost {W0 : World} {lab0 lab lab' : Lab} {w : World} (h : Fr W0 lab0 w lab) (hb : ∀ b, b < w.heap.size → lab b = none → lab' b = none) : Fr W0 lab0 w lab' :=
  h.next rfl rfl rfl (Nat.le_refl _) fun b hb' hl => ⟨hb b hb' hl, rfl⟩

theorem Keeps.refl (lab : Lab) (w : World) (k : Nat) : Keeps lab lab w w k := ⟨fun _ _ h => ⟨h, rfl⟩, fun b q _ h => ⟨by simpa [lessThan] using h, rfl⟩⟩

theorem Keeps.trans {lab lab1 lab2 : Lab} {w w1 w2 : World} {k : Nat} (h1 : Keeps lab lab1 w w1 k) (h2 : Keeps lab1 lab2 w1 w2 k) (hs : w.heap.size ≤ w1.heap.size) : Keeps lab lab2 w w2 k := by
  refine ⟨fun b hb hl => ?_, fun b q hb hl => ?_⟩
  · obtain ⟨a1, a2⟩ := h1.shr b hb hl
    obtain ⟨b1, b2⟩ := h2.shr b (Nat.lt_of_lt_of_le hb hs) a1
    exact ⟨b1, b2.trans a2⟩
  · obtain ⟨a1, a2⟩ := h1.own b q hb hl
    simp only [lessThan, if_true] at a1
    obtain ⟨b1, b2⟩ := h2.own b q (Nat.lt_of_lt_of_le hb hs) a1
    exact ⟨b1, b2.trans a2⟩

/-- A ghost step. -/
structure Ghost (lab lab' : Lab) (w : World) (ks : List Nat) : Prop where
  shr : ∀ b, b < w.heap.size → lab b = none → lab' b = none
  keep : ∀ k, k ∉ ks → Keeps lab lab' w w k

theorem take_sound {c : Ctx} {l : Env} {a : Act} {w : World} {lab : Lab} {mv : List Nat} {o : Operand} {ov : OV} {v : V} {up : List (Nat × Option AX)} (i : Nat)
    (h : Rel c l a w lab) (hs : Seen l o ov) (ht : take mv ov = some (v, up)) :
    ∃ lab', Rel c (applyUpd l up) a w lab' ∧ repV lab' w v.t v.m v.x (a.eval o) i [] ∧ Ghost lab lab' w (i :: keys up) := by
  have same : Ghost lab lab w (i :: keys up) := ⟨fun _ _ h => h, fun k _ => Keeps.refl lab w k⟩
  cases ov with
  | val k t m x =>
    cases k with
    | none =>
      simp only [take, Option.some.injEq, Prod.mk.injEq] at ht
      obtain ⟨rfl, rfl⟩ := ht
      exact ⟨lab, h, hs.1 a lab w i [] 0, same⟩
    | some k =>
      obtain ⟨rfl, hm⟩ := hs
      obtain ⟨u, hu, hrep⟩ := h.vals _ _ hm
      simp only [take] at ht
      split at ht
      · rename_i hf
        simp only [Option.some.injEq, Prod.mk.injEq] at ht
        obtain ⟨rfl, rfl⟩ := ht
        exact ⟨lab, h, by rw [eval_tmp hu]; exact repV_free hf hrep i [], same⟩
      · simp only [Option.some.injEq, Prod.mk.injEq] at ht
        obtain ⟨rfl, rfl⟩ := ht
        have hshr : ∀ b, b < w.heap.size → lab b = none → moveLab lab k [] i b = none := fun b _ hl => by simp [moveLab, hl]
        refine ⟨moveLab lab k [] i, ?_, ?_, hshr, fun j hj => moveLab_keep (fun e => hj (by simp [keys, e]))⟩
        · have := h.change (a' := a) (w' := w) (lab' := moveLab lab k [] i) [k] (h.not_hidden (h.lt hu)) h.defers rfl (fun _ _ _ => rfl) (fun _ _ => rfl) (h.fr.ghost hshr) (fun j hj _ => moveLab_keep (fun e => hj (by simp [e])))
          simpa [purgeAll, applyUpd] using this
        · rw [eval_tmp hu]
          simpa [cutTo] using repV_xfer hrep (moveLab_xfer (i := i))
  | ref k r p t m x =>
    obtain ⟨rfl, hm, hr⟩ := hs
    obtain ⟨u, t0, us0, A0, h1, h2, h3⟩ := h.vals _ _ hm t m x hr
    obtain ⟨u', h1', hrep⟩ := h.vals _ _ hr
    rw [h1] at h1'
    obtain rfl := Option.some.inj h1'
    simp only [take] at ht
    split at ht
    case h_2 => simp at ht
    rename_i t' x' hsub
    obtain ⟨us', A', hn, hrep'⟩ := rep_nav (A := none) hrep.rep hsub
    rw [h2] at hn
    simp only [Option.some.injEq, Prod.mk.injEq] at hn
    obtain ⟨rfl, rfl, rfl⟩ := hn
    have hv := repV_mk hrep'
    simp only [List.nil_append] at hv
    have hshr : ∀ b, b < w.heap.size → lab b = none → moveLab lab r p i b = none := fun b _ hl => by simp [moveLab, hl]
    have moved : ∃ lab', Rel c (applyUpd l [(r, none)]) a w lab' ∧ repV lab' w t0 (m - dep p) x' (a.eval (.tmp k)) i [] ∧ Ghost lab lab' w (i :: keys [(r, none)]) := by
      refine ⟨moveLab lab r p i, ?_, ?_, hshr, fun j hj => moveLab_keep (fun e => hj (by simp [keys, e]))⟩
      · have := h.change (a' := a) (w' := w) (lab' := moveLab lab r p i) [r] (h.not_hidden (h.lt h1)) h.defers rfl (fun _ _ _ => rfl) (fun _ _ => rfl) (h.fr.ghost hshr) (fun j hj _ => moveLab_keep (fun e => hj (by simp [e])))
        simpa [purgeAll, applyUpd] using this
      · rw [eval_tmp h3]
        simpa [cutTo] using repV_xfer hv (moveLab_xfer (i := i))
    split at ht
    · split at ht
      · simp only [Option.some.injEq, Prod.mk.injEq] at ht
        obtain ⟨rfl, rfl⟩ := ht
        exact moved
      · split at ht
        · rename_i hp t2 x2 hho
          simp only [Option.some.injEq, Prod.mk.injEq] at ht
          obtain ⟨rfl, rfl⟩ := ht
          obtain ⟨h4, h5⟩ := rep_hole (i := i) hrep.rep hho
          have hag := holeAt_agg (by simp) hho
          refine ⟨moveLab lab r _ i, ?_, ?_, hshr, fun j hj => moveLab_keep (fun e => hj (by simp [keys, e]))⟩
          · refine h.put hr h1 ⟨fun ha => hrep.shape (by rw [← hag]; exact ha), ?_⟩ h.defers rfl (fun _ => rfl) (h.fr.ghost hshr) (fun j hj _ => moveLab_keep hj)
            have : cellsOf t2 u = cellsOf t u := by simp [cellsOf, hag]
            rw [this]
            simpa using h4
          · rw [eval_tmp h3]
            simpa [cutTo] using repV_xfer hv (moveLab_xfer (i := i))
        · simp only [Option.some.injEq, Prod.mk.injEq] at ht
          obtain ⟨rfl, rfl⟩ := ht
          exact moved
    · simp only [Option.some.injEq, Prod.mk.injEq] at ht
      obtain ⟨rfl, rfl⟩ := ht
      have hshr : ∀ b, b < w.heap.size → lab b = none → freezeLab lab r (dep p) b = none := fun b _ hl => by simp [freezeLab, hl]
      refine ⟨freezeLab lab r (dep p), ?_, ?_, hshr, fun j hj => freezeLab_keep (fun e => hj (by simp [keys, e]))⟩
      · have hx := repV_xfer hrep (freezeLab_self (n := dep p))
        exact h.put hr h1 (by simpa [cutTo] using hx) h.defers rfl (fun _ => rfl) (h.fr.ghost hshr) (fun j hj _ => freezeLab_keep hj)
      · rw [eval_tmp h3]
        simpa [cutTo] using repV_xfer hv (freezeLab_part (i := i))
  | place k r p t m x => simp [take] at ht
  | tup k vs => simp [take] at ht

end Go.Abs
