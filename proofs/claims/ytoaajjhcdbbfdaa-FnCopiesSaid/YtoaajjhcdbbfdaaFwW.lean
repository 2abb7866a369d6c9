/- The framework: walks of code that keep plain values. -/
import Derived.Test.YtoaajjhcdbbfdaaFwV
set_option linter.unusedSimpArgs false
set_option linter.unnecessarySimpa false
set_option linter.unusedVariables false
namespace Go.Abs

/-- The roots of what goes along with a call beside its arguments. -/
def gbase : Nat := 900000
def pos (n i : Nat) : Nat := if i < n then i else gbase + (i - n)

theorem pos_lt {n i : Nat} (h : i < n) : pos n i = i := if_pos h

def HoldAll (lab : Lab) (w : World) (n : Nat) (vs : List V) (us : List Value) : Prop :=
  us.length = vs.length ∧ ∀ i (h : i < vs.length) (h' : i < us.length), repV lab w vs[i].t vs[i].m vs[i].x us[i] (pos n i) []

/-- A contract at given arguments; some data that the arguments lead to by ways of their own go along. -/
def MeetsU (P : Program) (f : FuncId) (us gv : List Value) (xs ys xs' : List V) : Prop :=
  ∀ (W : World) (lab : Lab), HoldAll lab W us.length xs (us ++ gv) →
    Calls P f us.toArray W fun e w' => ∃ vs lab', e = .returned (retVal vs) ∧ HoldRes lab' w' ys vs ∧ HoldAll lab' w' us.length xs' (us ++ gv) ∧ Fr W lab w' lab' ∧
      ∀ b q, b < W.heap.size → lab b = some (hidden, q) → lab' b = some (hidden, q) ∧ w'.heap[b]? = W.heap[b]?

theorem Meets.toU {P : Program} {f : FuncId} {xs ys xs' : List V} (h : Meets P f xs ys xs') (us : List Value) : MeetsU P f us [] xs ys xs' := by
  have conv : ∀ lab w vs, HoldAll lab w us.length vs (us ++ []) ↔ HoldArgs lab w vs us := fun lab w vs => by
    simp only [List.append_nil]
    constructor
    · rintro ⟨h1, h2⟩
      exact ⟨h1, fun i hi hi' => by have := h2 i hi hi'; rwa [pos_lt hi'] at this⟩
    · rintro ⟨h1, h2⟩
      exact ⟨h1, fun i hi hi' => by rw [pos_lt hi']; exact h2 i hi hi'⟩
  intro W lab hh
  refine (h W lab us ((conv _ _ _).1 hh)).mono ?_
  rintro e w' ⟨vs, lab', h1, h2, h3, h4, h5⟩
  exact ⟨vs, lab', h1, h2, (conv _ _ _).2 h3, h4, h5⟩

/-- How each argument goes over: lent, or with all that is its own. -/
structure Ps where
  io : Option Nat
  gh : Option Value
  L : List Nat
  rd : List Nat

def freeR : OV → Bool
  | .ref _ _ p t m x => match sub p t x with | some ⟨t', _⟩ => free t' (m - dep p) | none => false
  | ov => freeOV ov
def lentOf (ov : OV) : List Nat := match freeR ov with | true => [] | false => ov.rd

theorem lend_freeR {c : Ctx} {l : Env} {a : Act} {w : World} {lab lab0 : Lab} {x : Operand} {ov : OV} {v : V} (h : Rel c l a w lab) (hs : Seen l x ov) (hl : Go.Abs.lend ov = some v) (hf : freeR ov = true) (h0 : ∀ b, lab b = none → lab0 b = none) (i : Nat) : repV lab0 w v.t v.m v.x (a.eval x) i [] := by
  cases ov with
  | ref k r p t m y =>
    simp only [Go.Abs.lend] at hl
    split at hl
    case h_2 => simp at hl
    rename_i t' x' hsub
    simp only [Option.some.injEq] at hl
    subst hl
    simp only [freeR, hsub] at hf
    obtain ⟨rfl, hm, hrm⟩ := hs
    obtain ⟨u, t0, us0, A0, h1, h2, h3⟩ := h.vals _ _ hm _ _ _ hrm
    obtain ⟨u', h1', hrep⟩ := h.vals _ _ hrm
    rw [h1] at h1'
    obtain rfl := Option.some.inj h1'
    obtain ⟨us', A', hn, hrep'⟩ := rep_nav (A := none) hrep.rep hsub
    rw [h2] at hn
    simp only [Option.some.injEq, Prod.mk.injEq] at hn
    obtain ⟨rfl, rfl, rfl⟩ := hn
    rw [eval_tmp h3]
    have h4 := repV_free hf (repV_mk hrep') i []
    exact ⟨h4.shape, rep_move_shared (fun b hb hl => ⟨h0 b hl, rfl⟩) h4.rep⟩
  | val k t m y => exact lend_free h hs hl hf h0 i
  | place k r p t m y => simp [Go.Abs.lend] at hl
  | tup k vs => simp [Go.Abs.lend] at hl

inductive Passes (c : Ctx) (l : Env) : List OV → List Value → List V → List Ps → Prop where
  | nil : Passes c l [] [] [] []
  | lend {ov : OV} {v : V} {ovs : List OV} {ks : List Value} {vs : List V} {ps : List Ps} (h : lend ov = some v) (hs : Passes c l ovs ks vs ps) : Passes c l (ov :: ovs) ks (v :: vs) (⟨none, none, lentOf ov, ov.rd⟩ :: ps)
  | io {ov : OV} {r : Nat} {t : Ty} {m : Nat} {x : den t} {ovs : List OV} {ks : List Value} {vs : List V} {ps : List Ps} (h : owner ov = some ⟨r, [], t, m, x⟩) (hs : Passes c l ovs ks vs ps) : Passes c l (ov :: ovs) ks (⟨t, m, x⟩ :: vs) (⟨some r, none, [], ov.rd⟩ :: ps)
  | kio {r : Nat} {t : Ty} {m : Nat} {x : den t} {u : Value} {ks : List Value} {vs : List V} {ps : List Ps} (hl : look l r = some (.val t m x)) (hf : (r, u) ∈ c.fix) (hs : Passes c l [] ks vs ps) : Passes c l [] (u :: ks) (⟨t, m, x⟩ :: vs) (⟨some r, none, [], [r]⟩ :: ps)
  | klend {r : Nat} {t : Ty} {m : Nat} {x : den t} {u : Value} {ks : List Value} {vs : List V} {ps : List Ps} (hl : look l r = some (.val t m x)) (hf : (r, u) ∈ c.fix) (hs : Passes c l [] ks vs ps) : Passes c l [] (u :: ks) (⟨t, 0, x⟩ :: vs) (⟨none, none, lentOf (.val (some r) t m x), [r]⟩ :: ps)
  | kraw {u : Value} {ks : List Value} {vs : List V} {ps : List Ps} (h : u.oneCell' = true) (hs : Passes c l [] ks vs ps) : Passes c l [] (u :: ks) (⟨.raw, 0, u⟩ :: vs) (⟨none, none, [], []⟩ :: ps)
  | gio {r : Nat} {t : Ty} {m : Nat} {x : den t} {u : Value} {ks : List Value} {vs : List V} {ps : List Ps} (hl : look l r = some (.gh u t m x)) (hs : Passes c l [] ks vs ps) : Passes c l [] (u :: ks) (⟨t, m, x⟩ :: vs) (⟨some r, some u, [], [r]⟩ :: ps)
  | glend {r : Nat} {t : Ty} {m : Nat} {x : den t} {u : Value} {ks : List Value} {vs : List V} {ps : List Ps} (hl : look l r = some (.gh u t m x)) (hs : Passes c l [] ks vs ps) : Passes c l [] (u :: ks) (⟨t, 0, x⟩ :: vs) (⟨none, none, lentOf (.val (some r) t m x), [r]⟩ :: ps)

def rdsP (ps : List Ps) : List Nat := ps.flatMap (·.rd)
def lentP (ps : List Ps) : List Nat := ps.flatMap (·.L)

/-- What stands at a place of the arguments. -/
structure Stands (c : Ctx) (l : Env) (a : Act) (w : World) (lab : Lab) (u : Value) (v : V) (p : Ps) : Prop where
  lent : p.io = none → ∀ (lab0 : Lab) (j : Nat), (∀ b, lab b = none → lab0 b = none) → (∀ r ∈ p.L, ∀ b q, lab b = some (r, q) → lab0 b = none) → repV lab0 w v.t v.m v.x u j []
  own : ∀ r, p.io = some r → r < 999999 ∧ repV lab w v.t v.m v.x u r [] ∧ ((p.gh = none ∧ (r, AX.val v.t v.m v.x) ∈ l ∧ a.tmps[r]? = some u) ∨ (p.gh = some u ∧ (r, AX.gh u v.t v.m v.x) ∈ l))

theorem passes_len {c : Ctx} {l : Env} {ovs : List OV} {ks : List Value} {vs : List V} {ps : List Ps} (h : Passes c l ovs ks vs ps) : vs.length = ovs.length + ks.length ∧ ps.length = vs.length := by
  induction h <;> simp_all <;> omega

theorem lentOf_ok {c : Ctx} {l : Env} {a : Act} {w : World} {lab lab0 : Lab} {x : Operand} {ov : OV} {v : V} (h : Rel c l a w lab) (hs : Seen l x ov) (hl : Go.Abs.lend ov = some v) (h0 : ∀ b, lab b = none → lab0 b = none)
    (hr : ∀ r ∈ lentOf ov, ∀ b q, lab b = some (r, q) → lab0 b = none) (j : Nat) : repV lab0 w v.t v.m v.x (a.eval x) j [] := by
  cases hf : freeR ov with
  | true => exact lend_freeR h hs hl hf h0 j
  | false =>
    simp only [lentOf, hf] at hr
    exact lend_ok h hs hl h0 hr j

theorem passes_get {c : Ctx} {l l' : Env} {a : Act} {w : World} {lab : Lab} (hR : Rel c l' a w lab) : ∀ {ovs : List OV} {ks : List Value} {vs : List V} {ps : List Ps}, Passes c l ovs ks vs ps →
    ∀ {args : List Operand}, SeenAll l' args ovs → (∀ k ∈ rdsP ps, look l' k = look l k) → ∀ i (h1 : i < vs.length) (h2 : i < ps.length) (h3 : i < (args.map a.eval ++ ks).length), Stands c l' a w lab (args.map a.eval ++ ks)[i] vs[i] ps[i] := by
  intro ovs ks vs ps h
  induction h with
  | nil => intro args _ _ i h1; simp at h1
  | @lend ov v ovs ks vs ps h hs ih =>
    intro args hseen hag i h1 h2 h3
    match args, hseen with
    | x :: args, hseen =>
      cases i with
      | zero =>
        refine ⟨fun _ lab0 j h0 hr => ?_, fun r hr => by simp at hr⟩
        exact lentOf_ok hR hseen.1 h h0 hr j
      | succ i => simpa using ih hseen.2 (fun k hk => hag k (by simp only [rdsP, List.flatMap_cons, List.mem_append]; exact .inr hk)) i (by simpa using h1) (by simpa using h2) (by simpa using h3)
  | @io ov r t m y ovs ks vs ps h hs ih =>
    intro args hseen hag i h1 h2 h3
    match args, hseen with
    | x :: args, hseen =>
      cases i with
      | zero =>
        refine ⟨fun h => by simp at h, fun r' hr' => ?_⟩
        have hr' : r = r' := by simpa using hr'
        subst hr'
        obtain ⟨t1, us1, A, u, hh⟩ := owner_own hR hseen.1 h
        have hn := hh.nav
        simp only [nav, Option.some.injEq, Prod.mk.injEq] at hn
        obtain ⟨rfl, rfl, _⟩ := hn
        have hval := hh.val
        rw [mkV_cellsOf hh.rep.shape] at hval
        simp only [List.map_cons, List.cons_append, List.getElem_cons_zero, hval]
        exact ⟨Nat.lt_of_lt_of_le (hR.lt hh.root) c.hn, hh.rep, .inl ⟨by simp, hh.mem, hh.root⟩⟩
      | succ i => simpa using ih hseen.2 (fun k hk => hag k (by simp only [rdsP, List.flatMap_cons, List.mem_append]; exact .inr hk)) i (by simpa using h1) (by simpa using h2) (by simpa using h3)
  | @kio r t m y u ks vs ps hl hf hs ih =>
    intro args hseen hag i h1 h2 h3
    match args, hseen with
    | [], hseen =>
      cases i with
      | zero =>
        refine ⟨fun h => by simp at h, fun r' hr' => ?_⟩
        have hr' : r = r' := by simpa using hr'
        subst hr'
        have hl' : look l' r = some (.val t m y) := by rw [hag r (by simp [rdsP])]; exact hl
        obtain ⟨u', hu', hrep⟩ := hR.vals _ _ (look_mem hl')
        have hfx := hR.fix _ _ hf
        rw [hu'] at hfx
        obtain rfl := Option.some.inj hfx
        exact ⟨Nat.lt_of_lt_of_le (hR.lt hu') c.hn, hrep, .inl ⟨rfl, look_mem hl', hu'⟩⟩
      | succ i => simpa using ih (args := []) trivial (fun k hk => hag k (by simp only [rdsP, List.flatMap_cons, List.mem_append]; exact .inr hk)) i (by simpa using h1) (by simpa using h2) (by simpa using h3)
  | @klend r t m y u ks vs ps hl hf hs ih =>
    intro args hseen hag i h1 h2 h3
    match args, hseen with
    | [], hseen =>
      cases i with
      | zero =>
        refine ⟨fun _ lab0 j h0 hr => ?_, fun r hr => by simp at hr⟩
        have hl' : look l' r = some (.val t m y) := by rw [hag r (by simp [rdsP])]; exact hl
        have hfx := hR.fix _ _ hf
        have hsn : Seen l' (.tmp r) (.val (some r) t m y) := ⟨rfl, look_mem hl'⟩
        have := lentOf_ok hR hsn rfl h0 hr j
        rwa [eval_tmp hfx] at this
      | succ i => simpa using ih (args := []) trivial (fun k hk => hag k (by simp only [rdsP, List.flatMap_cons, List.mem_append]; exact .inr hk)) i (by simpa using h1) (by simpa using h2) (by simpa using h3)
  | @kraw u ks vs ps h hs ih =>
    intro args hseen hag i h1 h2 h3
    match args, hseen with
    | [], hseen =>
      cases i with
      | zero => exact ⟨fun _ lab0 j h0 hr => repV_lone rfl ⟨rfl, h⟩, fun r hr => by simp at hr⟩
      | succ i => simpa using ih (args := []) trivial (fun k hk => hag k (by simp only [rdsP, List.flatMap_cons, List.mem_append]; exact .inr hk)) i (by simpa using h1) (by simpa using h2) (by simpa using h3)
  | @gio r t m y u ks vs ps hl hs ih =>
    intro args hseen hag i h1 h2 h3
    match args, hseen with
    | [], hseen =>
      cases i with
      | zero =>
        refine ⟨fun h => by simp at h, fun r' hr' => ?_⟩
        have hr' : r = r' := by simpa using hr'
        subst hr'
        have hl' : look l' r = some (.gh u t m y) := by rw [hag r (by simp [rdsP])]; exact hl
        obtain ⟨hr1, hrep⟩ := hR.vals _ _ (look_mem hl')
        exact ⟨hr1, hrep, .inr ⟨rfl, look_mem hl'⟩⟩
      | succ i => simpa using ih (args := []) trivial (fun k hk => hag k (by simp only [rdsP, List.flatMap_cons, List.mem_append]; exact .inr hk)) i (by simpa using h1) (by simpa using h2) (by simpa using h3)
  | @glend r t m y u ks vs ps hl hs ih =>
    intro args hseen hag i h1 h2 h3
    match args, hseen with
    | [], hseen =>
      cases i with
      | zero =>
        refine ⟨fun _ lab0 j h0 hr => ?_, fun r hr => by simp at hr⟩
        have hl' : look l' r = some (.gh u t m y) := by rw [hag r (by simp [rdsP])]; exact hl
        obtain ⟨hr1, hrep⟩ := hR.vals _ _ (look_mem hl')
        simp only [List.map_nil, List.nil_append, List.getElem_cons_zero]
        simp only [List.getElem_cons_zero] at hr
        cases hf : free t m with
        | true =>
          have h1 := repV_free hf hrep j []
          exact ⟨h1.shape, rep_move_shared (fun b hb hl => ⟨h0 b hl, rfl⟩) h1.rep⟩
        | false =>
          have hL : r ∈ lentOf (.val (some r) t m y) := by simp [lentOf, freeR, freeOV, hf, OV.rd]
          have := repV_xfer (k := some 0) hrep (lab' := lab0) (w' := w) (r' := j) (p' := []) ⟨fun b _ hb => ⟨h0 b hb, rfl⟩, fun b q _ hb => ⟨by rw [hr r hL b _ hb]; simp [lessThan], rfl⟩⟩
          simpa [cutTo] using this
      | succ i => simpa using ih (args := []) trivial (fun k hk => hag k (by simp only [rdsP, List.flatMap_cons, List.mem_append]; exact .inr hk)) i (by simpa using h1) (by simpa using h2) (by simpa using h3)

/-- Several roots' data said anew at once. -/
def upsOf : List (Nat × AX) → List (Nat × Option AX) := List.map fun q => (q.1, some q.2)

theorem mem_upds : ∀ {us : List (Nat × AX)} {l : Env} {kv : Nat × AX}, (us.map (·.1)).Nodup → kv ∈ applyUpd l (upsOf us) → kv ∈ us ∨ (kv ∈ l ∧ ∀ r ∈ us.map (·.1), kv.1 ≠ r ∧ isRefTo false r kv.2 = false)
  | [], l, kv, _, h => .inr ⟨h, by simp⟩
  | (r, ax) :: us, l, kv, hnd, h => by
    simp only [upsOf, List.map_cons, applyUpd] at h
    simp only [List.map_cons, List.nodup_cons] at hnd
    rcases mem_upds (us := us) hnd.2 h with h1 | ⟨h1, h2⟩
    · exact .inl (List.mem_cons_of_mem _ h1)
    · rcases List.mem_cons.1 h1 with rfl | h1
      · exact .inl (List.mem_cons_self ..)
      · obtain ⟨h3, h4, h5⟩ := mem_purge h1
        refine .inr ⟨h3, fun r' hr' => ?_⟩
        rcases List.mem_cons.1 hr' with rfl | hr'
        · exact ⟨h4, h5⟩
        · exact h2 r' hr'

theorem nodup_keys_uniq {k : Nat} {v v' : AX} : ∀ {us : List (Nat × AX)}, (us.map (·.1)).Nodup → (k, v) ∈ us → (k, v') ∈ us → v = v'
  | [], _, h, _ => by simp at h
  | (k0, v0) :: us, hnd, h1, h2 => by
    simp only [List.map_cons, List.nodup_cons] at hnd
    rcases List.mem_cons.1 h1 with e1 | h1 <;> rcases List.mem_cons.1 h2 with e2 | h2
    · exact (Prod.mk.inj e1).2.trans (Prod.mk.inj e2).2.symm
    · exact absurd (List.mem_map_of_mem (f := (·.1)) h2) ((Prod.mk.inj e1).1 ▸ hnd.1)
    · exact absurd (List.mem_map_of_mem (f := (·.1)) h1) ((Prod.mk.inj e2).1 ▸ hnd.1)
    · exact nodup_keys_uniq hnd.2 h1 h2

/-- Roots that are said anew: each stands with its new datum. -/
structure Anew (l : Env) (a : Act) (w' : World) (lab' : Lab) (r : Nat) (ax : AX) : Prop where
  lt : r < 999999
  ok : (∃ t m x t' m' x' u, (r, AX.val t m x) ∈ l ∧ a.tmps[r]? = some u ∧ ax = .val t' m' x' ∧ repV lab' w' t' m' x' u r []) ∨
    (∃ t m x t' m' x' u, (r, AX.gh u t m x) ∈ l ∧ ax = .gh u t' m' x' ∧ repV lab' w' t' m' x' u r [])

theorem Rel.puts {c : Ctx} {l : Env} {a : Act} {w w' : World} {lab lab' : Lab} {us : List (Nat × AX)} (h : Rel c l a w lab) (hnd : (us.map (·.1)).Nodup) (hnew : ∀ q ∈ us, Anew l a w' lab' q.1 q.2)
    (hfr : Fr c.W0 c.lab0 w' lab') (hk : ∀ k, k ∉ us.map (·.1) → k < 1000000 → Keeps lab lab' w w' k) : Rel c (applyUpd l (upsOf us)) a w' lab' := by
  have hhid : hidden ∉ us.map (·.1) := fun hm => by
    obtain ⟨q, hq, he⟩ := List.mem_map.1 hm
    have := (hnew q hq).lt
    unfold hidden at he
    omega
  have huniq : ∀ k v v', (k, v) ∈ applyUpd l (upsOf us) → (k, v') ∈ applyUpd l (upsOf us) → v = v' := fun k v v' h1 h2 => by
    rcases mem_upds hnd h1 with h1 | ⟨h1, h1'⟩ <;> rcases mem_upds hnd h2 with h2 | ⟨h2, h2'⟩
    · exact nodup_keys_uniq hnd h1 h2
    · exact absurd rfl (h2' k (List.mem_map_of_mem (f := (·.1)) h1)).1
    · exact absurd rfl (h1' k (List.mem_map_of_mem (f := (·.1)) h2)).1
    · exact h.uniq k v v' h1 h2
  refine ⟨h.defers, h.size, h.fix, hfr, h.hid_next (hk hidden hhid (by unfold hidden; omega)), huniq, fun k v hm => ?_⟩
  have hm0 := hm
  rcases mem_upds hnd hm with hm | ⟨hm, hne⟩
  · obtain ⟨hlt, hok⟩ := hnew _ hm
    rcases hok with ⟨t, m, x, t', m', x', u, h1, h2, h3, h4⟩ | ⟨t, m, x, t', m', x', u, h1, h3, h4⟩
    · simp only at h3; subst h3; exact ⟨u, h2, h4⟩
    · simp only at h3; subst h3; exact ⟨hlt, h4⟩
  · have hkr : k ∉ us.map (·.1) := fun hk => (hne k hk).1 rfl
    have hvals := h.vals k v hm
    by_cases hroot : rootOf k v ∈ us.map (·.1)
    · -- a bare reference to a root
      cases v with
      | val t m x => exact absurd hroot hkr
      | tup vs => exact absurd hroot hkr
      | gh u t m x => exact absurd hroot hkr
      | place r p =>
        have := (hne r hroot).2
        simp only [isRefTo] at this
        rw [show Nat.beq r r = true from Nat.beq_refl r] at this
        exact absurd this (by simp)
      | ref r p =>
        have h2 := (hne r hroot).2
        simp only [isRefTo] at h2
        rw [show Nat.beq r r = true from Nat.beq_refl r] at h2
        cases p with
        | cons s p => simp at h2
        | nil =>
          obtain ⟨q, hq, hqr⟩ := List.mem_map.1 hroot
          obtain ⟨r', ax⟩ := q
          simp only [rootOf] at hqr
          subst hqr
          intro t1 m1 x1 hx1
          obtain ⟨hlt, hok⟩ := hnew _ hq
          have hax : ax = .val t1 m1 x1 := by
            rcases mem_upds hnd hx1 with hx2 | ⟨hx2, hx3⟩
            · exact nodup_keys_uniq hnd hq hx2
            · exact absurd rfl (hx3 r' (List.mem_map_of_mem (f := (·.1)) hq)).1
          rcases hok with ⟨t, m, x, t', m', x', u, h3, h4, h5, h6⟩ | ⟨t, m, x, t', m', x', u, h3, h5, h6⟩
          · simp only at h3 h4 h5 h6
            rw [hax] at h5
            injection h5 with e1 e2 e3
            subst e1
            obtain ⟨u0, t0, us0, A0, k1, k2, k3⟩ := hvals t m x h3
            rw [h4] at k1
            obtain rfl := Option.some.inj k1
            simp only [nav, Option.some.injEq, Prod.mk.injEq] at k2
            obtain ⟨rfl, rfl, rfl⟩ := k2
            obtain ⟨u1, k4, k5⟩ := h.vals _ _ h3
            rw [h4] at k4
            obtain rfl := Option.some.inj k4
            rw [mkV_cellsOf k5.shape] at k3
            exact ⟨u, _, _, none, h4, rfl, by rw [mkV_cellsOf h6.shape]; exact k3⟩
          · simp only at h5
            rw [hax] at h5
            cases h5
    · refine holds_keep hvals rfl rfl (fun t1 m1 x1 hx1 => ?_) (fun t m x hx => h.vals _ _ hx) (by rw [h.size]; have := c.hn; omega) (hk _ hroot)
      rcases mem_upds hnd hx1 with hx1 | ⟨hx1, _⟩
      · exact absurd (List.mem_map_of_mem (f := (·.1)) hx1) hroot
      · exact hx1


def rootsP (n : Nat) : Nat → List Ps → List (Nat × Nat)
  | _, [] => []
  | i, p :: ps => match p.io with | some r => (r, pos n i) :: rootsP n (i + 1) ps | none => rootsP n (i + 1) ps
def findK (k : Nat) : List (Nat × Nat) → Option Nat
  | [] => none
  | (r, i) :: l => match Nat.beq r k with | true => some i | false => findK k l
def findB (k : Nat) : List (Nat × Nat) → Option Nat
  | [] => none
  | (r, i) :: l => match Nat.beq i k with | true => some r | false => findB k l
def isSomeOf (o : Option Nat) (k : Nat) : Bool := match o with | some j => Nat.beq j k | none => false
def okIO (ios : List (Nat × Nat)) (L : List Nat) : List (Nat × Nat) → Bool
  | [] => true
  | (r, i) :: l => isSomeOf (findK r ios) i && isSomeOf (findB i ios) r && !(memb r L) && Nat.blt i 999999 && okIO ios L l
def nodupB : List Nat → Bool
  | [] => true
  | k :: l => !(memb k l) && nodupB l
def newsP : List Ps → List V → List (Nat × AX)
  | p :: ps, v :: vs => match p.io with
    | some r => (r, match p.gh with | none => .val v.t v.m v.x | some u => .gh u v.t v.m v.x) :: newsP ps vs
    | none => newsP ps vs
  | _, _ => []
def fullIO : List Ps → List V → Bool
  | p :: ps, v :: vs => (match p.io with | some _ => full v | none => true) && fullIO ps vs
  | _, _ => true
/-- What a call must show beside its contract. -/
def okMM (n : Nat) (ps : List Ps) (ys VS' : List V) : Bool :=
  okIO (rootsP n 0 ps) (lentP ps) (rootsP n 0 ps) && nodupB ((rootsP n 0 ps).map (·.1)) && Nat.beq VS'.length ps.length && (match lentP ps with | [] => true | _ :: _ => allFull ys && fullIO ps VS')

theorem okIO_spec {ios : List (Nat × Nat)} {L : List Nat} : ∀ {l : List (Nat × Nat)}, okIO ios L l = true → ∀ r i, (r, i) ∈ l → findK r ios = some i ∧ findB i ios = some r ∧ memb r L = false ∧ i < 999999
  | [], _, _, _, h => by simp at h
  | (r0, i0) :: l, h, r, i, hm => by
    simp only [okIO, Bool.and_eq_true] at h
    obtain ⟨⟨⟨⟨h1, h2⟩, h3⟩, h4⟩, h5⟩ := h
    rcases List.mem_cons.1 hm with e | hm
    · obtain ⟨rfl, rfl⟩ := Prod.mk.inj e
      refine ⟨?_, ?_, by simpa using h3, by simpa [Nat.blt_eq] using h4⟩
      · unfold isSomeOf at h1
        split at h1
        · rename_i j hj; rw [hj, Nat.eq_of_beq_eq_true h1]
        · simp at h1
      · unfold isSomeOf at h2
        split at h2
        · rename_i j hj; rw [hj, Nat.eq_of_beq_eq_true h2]
        · simp at h2
    · exact okIO_spec h5 r i hm

theorem nodupB_spec : ∀ {l : List Nat}, nodupB l = true → l.Nodup
  | [], _ => List.nodup_nil
  | k :: l, h => by
    simp only [nodupB, Bool.and_eq_true] at h
    exact List.nodup_cons.2 ⟨memb_false (by simpa using h.1), nodupB_spec h.2⟩

theorem mem_rootsP {n : Nat} : ∀ {ps : List Ps} {i0 i r : Nat} (h : i < ps.length), ps[i].io = some r → (r, pos n (i0 + i)) ∈ rootsP n i0 ps
  | p :: ps, i0, i, r, h, hr => by
    simp only [rootsP]
    cases i with
    | zero => simp only [List.getElem_cons_zero] at hr; rw [hr]; exact List.mem_cons_self ..
    | succ i =>
      have := mem_rootsP (n := n) (ps := ps) (i0 := i0 + 1) (i := i) (by simpa using h) (by simpa using hr)
      rw [show i0 + 1 + i = i0 + (i + 1) by omega] at this
      split
      · exact List.mem_cons_of_mem _ this
      · exact this

theorem findK_mem : ∀ {l : List (Nat × Nat)} {r i : Nat}, findK r l = some i → (r, i) ∈ l
  | (r0, i0) :: l, r, i, h => by
    simp only [findK] at h
    split at h
    · rename_i hb; have := Nat.eq_of_beq_eq_true hb; simp only [Option.some.injEq] at h; subst h; subst this; exact List.mem_cons_self ..
    · exact List.mem_cons_of_mem _ (findK_mem h)
theorem rootsP_mem {n : Nat} : ∀ {ps : List Ps} {i0 r j : Nat}, (r, j) ∈ rootsP n i0 ps → ∃ i, ∃ h : i < ps.length, ps[i].io = some r ∧ j = pos n (i0 + i)
  | [], _, _, _, h => by simp [rootsP] at h
  | p :: ps, i0, r, j, h => by
    simp only [rootsP] at h
    have next : (r, j) ∈ rootsP n (i0 + 1) ps → ∃ i, ∃ h : i < (p :: ps).length, (p :: ps)[i].io = some r ∧ j = pos n (i0 + i) := fun h => by
      obtain ⟨i, hi, h1, h2⟩ := rootsP_mem h
      exact ⟨i + 1, by simpa using hi, by simpa using h1, by rw [h2]; congr 1; omega⟩
    split at h
    · rename_i r' hr'
      rcases List.mem_cons.1 h with e | h
      · obtain ⟨rfl, rfl⟩ := Prod.mk.inj e
        exact ⟨0, by simp, by simpa using hr', by simp⟩
      · exact next h
    · exact next h
theorem newsP_keys {n : Nat} : ∀ {ps : List Ps} {vs : List V} {i0 : Nat}, vs.length = ps.length → (newsP ps vs).map (·.1) = (rootsP n i0 ps).map (·.1)
  | [], [], _, _ => rfl
  | p :: ps, v :: vs, i0, h => by
    simp only [newsP, rootsP]
    have := newsP_keys (n := n) (ps := ps) (vs := vs) (i0 := i0 + 1) (by simpa using h)
    split <;> simp [*]
  | [], _ :: _, _, h => by simp at h
  | _ :: _, [], _, h => by simp at h
theorem newsP_mem : ∀ {ps : List Ps} {vs : List V} {q : Nat × AX}, q ∈ newsP ps vs → ∃ i, ∃ h : i < ps.length, ∃ h' : i < vs.length, ps[i].io = some q.1 ∧ q.2 = (match ps[i].gh with | none => AX.val vs[i].t vs[i].m vs[i].x | some u => .gh u vs[i].t vs[i].m vs[i].x)
  | [], _, _, h => by simp [newsP] at h
  | _ :: _, [], _, h => by simp [newsP] at h
  | p :: ps, v :: vs, q, h => by
    simp only [newsP] at h
    have next : q ∈ newsP ps vs → ∃ i, ∃ h : i < (p :: ps).length, ∃ h' : i < (v :: vs).length, (p :: ps)[i].io = some q.1 ∧ q.2 = (match (p :: ps)[i].gh with | none => AX.val (v :: vs)[i].t (v :: vs)[i].m (v :: vs)[i].x | some u => .gh u (v :: vs)[i].t (v :: vs)[i].m (v :: vs)[i].x) := fun h => by
      obtain ⟨i, hi, hi', h1, h2⟩ := newsP_mem h
      exact ⟨i + 1, by simpa using hi, by simpa using hi', by simpa using h1, by simpa using h2⟩
    split at h
    · rename_i r' hr'
      rcases List.mem_cons.1 h with rfl | h
      · exact ⟨0, by simp, by simp, by simpa using hr', rfl⟩
      · exact next h
    · exact next h
theorem fullIO_get : ∀ {ps : List Ps} {vs : List V}, fullIO ps vs = true → ∀ i (h : i < ps.length) (h' : i < vs.length) r, ps[i].io = some r → vs[i].t.depth ≤ vs[i].m
  | p :: ps, v :: vs, h, i, hi, hi', r, hr => by
    simp only [fullIO, Bool.and_eq_true] at h
    cases i with
    | zero =>
      simp only [List.getElem_cons_zero] at hr ⊢
      rw [hr] at h
      exact Nat.le_of_ble_eq_true h.1
    | succ i => simpa using fullIO_get h.2 i (by simpa using hi) (by simpa using hi') r (by simpa using hr)

def labInM (ios : List (Nat × Nat)) (L : List Nat) (lab : Lab) : Lab := fun b => match lab b with
  | none => none
  | some (r, q) => match memb r L with
    | true => none
    | false => match findK r ios with
      | some i => some (i, q)
      | none => some (hidden, [])
def labBackM (ios : List (Nat × Nat)) (d : Nat) (pk : Nat → Path) : Option (Nat × Path) → Option (Nat × Path)
  | none => none
  | some (j, q) => if resRoot ≤ j then some (d, pk (j - resRoot) ++ q) else match findB j ios with
    | some r => some (r, q)
    | none => none
def labOutM (ios : List (Nat × Nat)) (lab lab' : Lab) (size d : Nat) (pk : Nat → Path) : Lab := fun b =>
  if b < size then match lab b with
    | none => none
    | some (r, q) => match findK r ios with | some _ => labBackM ios d pk (lab' b) | none => some (r, q)
  else labBackM ios d pk (lab' b)

theorem exec_callV {P : Program} {f : FuncId} {fn : Func} {fo : Operand} {args : Array Operand} {tys : Array TypeId} {cs : List Value} {o : Oper} {a : Act} (ho : o.op = .call { callee := .value fo, args := args, argTypes := tys }) (hfo : a.eval fo = .func (.func f) #[] cs.toArray)
    (hf : P.funcs[f]? = some fn) (hb : fn.body.isNone = false) (hname : (fn.name == "runtime.NumGoroutine") = false) (w : World) :
    (execOp a.eval o).run P w = .ok (.enter f (args.map a.eval ++ cs.toArray)) w := by
  have h1 : ¬ fn.name = "runtime.NumGoroutine" := by simpa using hname
  have h2 : ¬ fn.body = none := fun h => by simp [h] at hb
  simp [execOp, ho, resolve, hfo, Deferred.ofValue, invoke, callFunc, hf, h1, h2]

theorem seen_raw {c : Ctx} {l : Env} {a : Act} {w : World} {lab : Lab} {x : Operand} {k : Option Nat} {m : Nat} {v : Value} (h : Rel c l a w lab) (hs : Seen l x (.val k .raw m v)) : a.eval x = v := by
  cases k with
  | none =>
    have := (hs.1 a lab w 0 [] 0).rep
    simp only [rep, cellsOf, Ty.agg, List.cons.injEq, and_true] at this
    exact this.1
  | some k =>
    obtain ⟨rfl, hm⟩ := hs
    obtain ⟨u, hu, hrep⟩ := h.vals _ _ hm
    have := hrep.rep
    simp only [rep, cellsOf, Ty.agg, List.cons.injEq, and_true] at this
    rw [eval_tmp hu]
    exact this.1

theorem r_callM {P : Program} {c : Ctx} {l : Env} {o : Oper} {f : FuncId} {fn : Func} {fo : Operand} {args : Array Operand} {tys : Array TypeId} {k : Option Nat} {m : Nat} {cs : List Value} (gv : List Value) {ovs : List OV} {VS ys VS' : List V} {ps : List Ps}
    (ho : o.op = .call { callee := .value fo, args := args, argTypes := tys }) (hfo : view l fo = some (.val k .raw m (.func (.func f) #[] cs.toArray))) (hv : viewAll l args.toList = some ovs)
    (hf : P.funcs[f]? = some fn) (hb : fn.body.isNone = false) (hname : (fn.name == "runtime.NumGoroutine") = false)
    (hfn : ∀ us0 : List Value, us0.length = args.toList.length → MeetsU P f (us0 ++ cs) gv VS ys VS') (hp : Passes c l ovs (cs ++ gv) VS ps) (hok : okMM (args.toList.length + cs.length) ps ys VS' = true) :
    SR P c l o ⟨(OV.val k .raw m (.func (.func f) #[] cs.toArray)).rd ++ (rds ovs ++ rdsP ps), resAX ys, upsOf (newsP ps VS')⟩ := fun l' hag => by
  have hfo' := seen_of_view (view_agree hfo (fun k hk => hag k (List.mem_append_left _ hk)))
  have hs := seenAll_of (viewAll_agree hv (fun k hk => hag k (List.mem_append_right _ (List.mem_append_left _ hk))))
  have hagp : ∀ k ∈ rdsP ps, look l' k = look l k := fun k hk => hag k (List.mem_append_right _ (List.mem_append_right _ hk))
  intro a w lab hR hd Q
  unfold Oper.wp
  rw [exec_callV ho (seen_raw hR hfo') hf hb hname, Oper.upon_enter]
  let us := args.toList.map a.eval ++ cs
  have hul : us.length = args.toList.length + cs.length := by simp [us]
  have hst := passes_get hR hp hs hagp
  obtain ⟨hl1, hl2⟩ := passes_len hp
  have hovl : ovs.length = args.toList.length := by
    have key : ∀ {l : Env} {os : List Operand} {ovs : List OV}, SeenAll l os ovs → ovs.length = os.length := by
      intro l os
      induction os with
      | nil => intro ovs h; cases ovs with | nil => rfl | cons _ _ => exact h.elim
      | cons x os ih => intro ovs h; cases ovs with | nil => exact h.elim | cons _ _ => simp [ih h.2]
    exact key hs
  have hall : args.toList.map a.eval ++ (cs ++ gv) = us ++ gv := by simp [us]
  simp only [okMM, Bool.and_eq_true] at hok
  obtain ⟨⟨⟨hok1, hok2⟩, hok3⟩, hok4⟩ := hok
  rw [← hul] at hok1 hok2
  let n := us.length
  let ios := rootsP n 0 ps
  let L := lentP ps
  let lab0 := labInM ios L lab
  have hspec := okIO_spec hok1
  have hlen' : VS'.length = ps.length := Nat.eq_of_beq_eq_true hok3
  have ioAt : ∀ i (h : i < ps.length) r, ps[i].io = some r → findK r ios = some (pos n i) ∧ findB (pos n i) ios = some r ∧ memb r L = false ∧ pos n i < 999999 := fun i h r hr => hspec r (pos n i) (by simpa using mem_rootsP (n := n) (i0 := 0) h hr)
  have labNone : ∀ b, lab b = none → lab0 b = none := fun b hb => by simp [lab0, labInM, hb]
  have labLent : ∀ b r q, lab b = some (r, q) → memb r L = true → lab0 b = none := fun b r q hb hm => by simp [lab0, labInM, hb, hm]
  have labHid : ∀ b r q, lab b = some (r, q) → memb r L = false → findK r ios = none → lab0 b = some (hidden, []) := fun b r q hb hm hk => by simp [lab0, labInM, hb, hm, hk]
  have mL : ∀ i (h : i < ps.length) r, r ∈ ps[i].L → memb r L = true := fun i h r hr => by
    cases hm : memb r L with
    | true => rfl
    | false => exact absurd (List.mem_flatMap.2 ⟨ps[i], List.getElem_mem h, hr⟩) (memb_false hm)
  have hargs : HoldAll lab0 w n VS (us ++ gv) := by
    refine ⟨by rw [← hall]; simp only [List.length_append, List.length_map] at hl1 ⊢; omega, fun i h1 h2 => ?_⟩
    have h3 : i < ps.length := by omega
    have h4 : i < (args.toList.map a.eval ++ (cs ++ gv)).length := by rw [hall]; exact h2
    have hS := hst i h1 h3 h4
    have he : (args.toList.map a.eval ++ (cs ++ gv))[i] = (us ++ gv)[i] := by congr 1
    rw [he] at hS
    cases hio : ps[i].io with
    | none => exact hS.lent hio lab0 (pos n i) labNone fun r hr b q hb => labLent b r q hb (mL i h3 r hr)
    | some r =>
      obtain ⟨_, hrep, _⟩ := hS.own r hio
      obtain ⟨hk1, _, hk3, _⟩ := ioAt i h3 r hio
      have := repV_xfer (k := none) hrep (lab' := lab0) (w' := w) (r' := pos n i) (p' := []) ⟨fun b _ hb => ⟨labNone b hb, rfl⟩, fun b q _ hb => ⟨by simp [lab0, labInM, show lab b = some (r, q) by simpa using hb, hk3, hk1, lessThan], rfl⟩⟩
      simpa [cutTo] using this
  have hcall := hfn (args.toList.map a.eval) (by simp) w lab0 (by simpa [us, n] using hargs)
  have harr : (args.toList.map a.eval ++ cs).toArray = args.map a.eval ++ cs.toArray := by apply Array.ext'; simp
  rw [harr] at hcall
  refine hcall.mono ?_
  rintro e w' ⟨vs, lab', rfl, hres, hback, hfr, hhid⟩
  simp only []
  let d0 := o.dst.getD 0
  let lab2 := labOutM ios lab lab' w.heap.size d0 (resPath ys)
  have hshr : ∀ b, b < w.heap.size → lab b = none → lab2 b = none ∧ w'.heap[b]? = w.heap[b]? := fun b hb hl => ⟨by simp [lab2, labOutM, hb, hl], (hfr.old b hb (labNone b hl)).2⟩
  have hoth : ∀ b r q, b < w.heap.size → lab b = some (r, q) → findK r ios = none → lab2 b = some (r, q) ∧ w'.heap[b]? = w.heap[b]? := fun b r q hb hl hr => by
    refine ⟨by simp [lab2, labOutM, hb, hl, hr], ?_⟩
    cases hm : memb r L with
    | true => exact (hfr.old b hb (labLent b r q hl hm)).2
    | false => exact (hhid b [] hb (labHid b r q hl hm hr)).2
  have hkeep : ∀ k, findK k ios = none → Keeps lab lab2 w w' k := fun k hk => ⟨fun b hb hbl => hshr b hb hbl, fun b q hb hbl => by
    obtain ⟨h1, h2⟩ := hoth b k q hb (by simpa using hbl) hk
    exact ⟨by rw [h1]; simp [lessThan], h2⟩⟩
  have hfr2 : Fr c.W0 c.lab0 w' lab2 := hR.fr.next hfr.os hfr.tape hfr.output hfr.size fun b hb hbl => hshr b hb hbl
  have hxf : ∀ (t : Ty) (m : Nat) (x : den t) (u : Value) (j r2 : Nat) (p2 : Path), (L = [] ∨ t.depth ≤ m) → repV lab' w' t m x u j [] → (∀ q, labBackM ios d0 (resPath ys) (some (j, q)) = some (r2, p2 ++ q)) → (j = hidden → False) → repV lab2 w' t m x u r2 p2 := by
    intro t m x u j r2 p2 hL hrep hj hjh
    have hown : ∀ b q, b < w'.heap.size → lab' b = some (j, q) → lab2 b = some (r2, p2 ++ q) := fun b q hb hl => by
      show labOutM ios lab lab' w.heap.size d0 (resPath ys) b = _
      unfold labOutM
      split
      · rename_i hlt
        split
        · rename_i hn
          have := (hfr.old b hlt (labNone b hn)).1
          rw [hl] at this; cases this
        · rename_i r q0 hn
          cases hr : findK r ios with
          | some _ => simp only [hl]; exact hj q
          | none =>
            exfalso
            cases hm : memb r L with
            | true =>
              have := (hfr.old b hlt (labLent b r q0 hn hm)).1
              rw [hl] at this; cases this
            | false =>
              have := (hhid b [] hlt (labHid b r q0 hn hm hr)).1
              rw [hl] at this
              simp only [Option.some.injEq, Prod.mk.injEq] at this
              exact hjh this.1
      · simp only [hl]; exact hj q
    rcases hL with hL | hL
    · have := repV_xfer (k := none) hrep (lab' := lab2) (w' := w') (r' := r2) (p' := p2) ⟨fun b hb hl => ⟨?_, rfl⟩, fun b q hb hl => ⟨by rw [hown b q hb (by simpa using hl)]; simp [lessThan], rfl⟩⟩
      · simpa [cutTo] using this
      · show labOutM ios lab lab' w.heap.size d0 (resPath ys) b = _
        unfold labOutM
        split
        · rename_i hlt
          split
          · rfl
          · rename_i r q0 hn
            cases hr : findK r ios with
            | some _ => simp [hl, labBackM]
            | none =>
              exfalso
              have hm : memb r L = false := by rw [hL]; rfl
              have := (hhid b [] hlt (labHid b r q0 hn hm hr)).1
              rw [hl] at this; cases this
        · simp [hl, labBackM]
    · exact repV_move_full hL hrep fun b q hb hl => ⟨hown b q hb (by simpa using hl), rfl⟩
  have hfullq : L = [] ∨ (allFull ys = true ∧ fullIO ps VS' = true) := by
    cases hL : lentP ps with
    | nil => exact .inl hL
    | cons k ks => right; rw [hL] at hok4; simpa using hok4
  have hkeysEq : (newsP ps VS').map (·.1) = ios.map (·.1) := newsP_keys (n := n) (i0 := 0) hlen'
  have hR1 : Rel c (applyUpd l' (upsOf (newsP ps VS'))) a w' lab2 := by
    refine hR.puts (by rw [hkeysEq]; exact nodupB_spec hok2) (fun q hq => ?_) hfr2 (fun k hk _ => hkeep k ?_)
    · obtain ⟨i, h1, h2, h3, h4⟩ := newsP_mem hq
      have h5 : i < VS.length := by omega
      have h6 : i < (us ++ gv).length := by have := hback.1; simp only [us] at *; omega
      have hS := hst i h5 h1 (by rw [hall]; exact h6)
      have he : (args.toList.map a.eval ++ (cs ++ gv))[i]'(by rw [hall]; exact h6) = (us ++ gv)[i] := by congr 1
      rw [he] at hS
      obtain ⟨hr1, hrep, hor⟩ := hS.own _ h3
      obtain ⟨_, hk2, _, hk4⟩ := ioAt i h1 _ h3
      have hb := hback.2 i h2 (by simpa [us] using h6)
      have hb' : repV lab2 w' VS'[i].t VS'[i].m VS'[i].x (us ++ gv)[i] q.1 [] := by
        refine hxf _ _ _ _ (pos n i) q.1 [] ?_ (by simpa [us, n] using hb) (fun q' => ?_) (by unfold hidden; omega)
        · exact hfullq.imp id fun h => fullIO_get h.2 i h1 h2 _ h3
        · have : ¬ resRoot ≤ pos n i := by unfold resRoot; omega
          simp [labBackM, this, hk2]
      refine ⟨hr1, ?_⟩
      rcases hor with ⟨g1, g2, g3⟩ | ⟨g1, g2⟩
      · rw [g1] at h4; exact .inl ⟨_, _, _, _, _, _, _, g2, g3, h4, hb'⟩
      · rw [g1] at h4; exact .inr ⟨_, _, _, _, _, _, _, g2, h4, hb'⟩
    · cases hf : findK k ios with
      | none => rfl
      | some i => exact absurd (by rw [hkeysEq]; exact List.mem_map_of_mem (f := (·.1)) (findK_mem hf)) hk
  have hfin := fin_res (rd := (OV.val k .raw m (.func (.func f) #[] cs.toArray)).rd ++ (rds ovs ++ rdsP ps)) hR1 hd hres.len hfr2 (fun k _ _ => Keeps.refl lab2 w' k) (fun b q hb hbl => hR1.hid b q hb hbl) (fun d hdst k hk hk' => ?_)
  · refine ⟨lab2, ?_⟩
    have he : after l' o.dst ⟨(OV.val k .raw m (.func (.func f) #[] cs.toArray)).rd ++ (rds ovs ++ rdsP ps), resAX ys, upsOf (newsP ps VS')⟩ = after (applyUpd l' (upsOf (newsP ps VS'))) o.dst ⟨(OV.val k .raw m (.func (.func f) #[] cs.toArray)).rd ++ (rds ovs ++ rdsP ps), resAX ys, []⟩ := by
      unfold after
      simp only [applyUpd]
    rw [he]
    exact hfin
  · refine hxf _ _ _ _ (resRoot + k) d (resPath ys k) ?_ (hres.rep k hk hk') (fun q => ?_) (by unfold resRoot hidden; omega)
    · exact hfullq.imp id fun h => allFull_get h.1 k hk
    · simp [labBackM, d0, hdst]


/-- The state at the door: arguments under their numbers, what goes along under its own. -/
def ghEnv : Nat → List Value → List V → Env
  | k, u :: us, v :: vs => (k, .gh u v.t v.m v.x) :: ghEnv (k + 1) us vs
  | _, _, _ => []
def fixU : Nat → List Value → List (Nat × Value)
  | _, [] => []
  | i, u :: us => (i, u) :: fixU (i + 1) us
def rangeU : Nat → Nat → List Nat
  | _, 0 => []
  | i, n + 1 => i :: rangeU (i + 1) n
def ghBack (l : Env) : Nat → List Value → List V → Prop
  | _, [], [] => True
  | k, u :: us, v :: vs => look l k = some (.gh u v.t v.m v.x) ∧ ghBack l (k + 1) us vs
  | _, _, _ => False

theorem mem_ghEnv : ∀ {gv : List Value} {gs : List V} {i k : Nat} {v : AX}, (k, v) ∈ ghEnv i gv gs → ∃ j, ∃ h : j < gv.length, ∃ h' : j < gs.length, k = i + j ∧ v = .gh gv[j] gs[j].t gs[j].m gs[j].x
  | u :: us, x :: vs, i, k, v, h => by
    simp only [ghEnv] at h
    rcases List.mem_cons.1 h with he | h
    · obtain ⟨rfl, rfl⟩ := Prod.mk.inj he
      exact ⟨0, by simp, by simp, rfl, rfl⟩
    · obtain ⟨j, hj, hj', rfl, rfl⟩ := mem_ghEnv h
      exact ⟨j + 1, by simpa using hj, by simpa using hj', by omega, rfl⟩
  | [], _, _, _, _, h => by simp [ghEnv] at h
  | _ :: _, [], _, _, _, h => by simp [ghEnv] at h

theorem mem_fixU : ∀ {us : List Value} {i k : Nat} {u : Value}, (k, u) ∈ fixU i us → ∃ j, ∃ h : j < us.length, k = i + j ∧ u = us[j]
  | [], _, _, _, h => by simp [fixU] at h
  | x :: us, i, k, u, h => by
    simp only [fixU] at h
    rcases List.mem_cons.1 h with he | h
    · obtain ⟨rfl, rfl⟩ := Prod.mk.inj he
      exact ⟨0, by simp, rfl, rfl⟩
    · obtain ⟨j, hj, rfl, rfl⟩ := mem_fixU h
      exact ⟨j + 1, by simpa using hj, by omega, rfl⟩
theorem fixU_mem : ∀ {us : List Value} {i j : Nat} (h : j < us.length), (i + j, us[j]) ∈ fixU i us
  | u :: us, i, j, h => by
    simp only [fixU]
    cases j with
    | zero => exact List.mem_cons_self ..
    | succ j =>
      have := fixU_mem (us := us) (i := i + 1) (j := j) (by simpa using h)
      rw [show i + 1 + j = i + (j + 1) by omega] at this
      exact List.mem_cons_of_mem _ this
theorem mem_rangeU : ∀ {n i j : Nat}, j < n → i + j ∈ rangeU i n
  | n + 1, i, j, h => by
    simp only [rangeU]
    cases j with
    | zero => exact List.mem_cons_self ..
    | succ j =>
      have := mem_rangeU (n := n) (i := i + 1) (j := j) (by omega)
      rw [show i + 1 + j = i + (j + 1) by omega] at this
      exact List.mem_cons_of_mem _ this

theorem ghBack_get : ∀ {gv : List Value} {gs : List V} {l : Env} {k : Nat}, ghBack l k gv gs → gs.length = gv.length ∧ ∀ j (h : j < gv.length) (h' : j < gs.length), look l (k + j) = some (.gh gv[j] gs[j].t gs[j].m gs[j].x)
  | [], [], _, _, _ => by simp
  | u :: us, v :: vs, l, k, h => by
    obtain ⟨h1, h2⟩ := ghBack_get h.2
    refine ⟨by simp [h1], fun j hj hj' => ?_⟩
    cases j with
    | zero => exact h.1
    | succ j =>
      have := h2 j (by simpa using hj) (by simpa using hj')
      rw [show k + 1 + j = k + (j + 1) by omega] at this
      simpa using this
  | [], _ :: _, _, _, h => h.elim
  | _ :: _, [], _, _, h => h.elim

def retU (P : Program) (rvs : List ResultVar) (ys as as' gs' : List V) (gv : List Value) : Exit → Env → Prop
  | .normal, l => ∃ l', ResTakes P l rvs ys l' ∧ argsBack l' 0 as as' ∧ ghBack l' gbase gv gs'
  | .ret, l => ∃ l', ResTakes P l rvs ys l' ∧ argsBack l' 0 as as' ∧ ghBack l' gbase gv gs'
  | _, _ => False

theorem MeetsU.of_body {P : Program} {f : FuncId} {fn : Func} {code : Code} {us gv : List Value} {as gs ys as' gs' : List V} (n : Nat) (hun : us.length = n) (hf : P.funcs[f]? = some fn) (hb : fn.body = some code) (hn : Nat.ble fn.ntmps gbase = true) (hx : Nat.ble n fn.ntmps = true)
    (han : Nat.beq as.length n = true) (hgn : Nat.beq gs.length gv.length = true) (hgb : Nat.blt gv.length 90000 = true)
    (h : ∀ c : Ctx, c.n = fn.ntmps → (∀ k u, (k, u) ∈ c.fix → k ∈ rangeU 0 n) → (∀ p, p ∈ fixU 0 us → p ∈ c.fix) → AW P c code (retU P fn.results.toList ys as as' gs' gv) (initEnv 0 as ++ ghEnv gbase gv gs)) : MeetsU P f us gv (as ++ gs) ys (as' ++ gs') := by
  intro W lab hall
  have hn := Nat.le_of_ble_eq_true hn
  have hx := Nat.le_of_ble_eq_true hx
  have han := Nat.eq_of_beq_eq_true han
  have hgn := Nat.eq_of_beq_eq_true hgn
  have hgb : gv.length < 90000 := by simpa [Nat.blt_eq] using hgb
  subst hun
  have hn9 : fn.ntmps ≤ 999999 := Nat.le_trans hn (by decide)
  let c : Ctx := ⟨W, lab, fixU 0 us, fn.ntmps, hn9⟩
  refine calls_of_wp hf hb ?_
  have hsize : (us.toArray ++ Array.replicate (fn.ntmps - us.toArray.size) undef).size = fn.ntmps := by simp; omega
  have htmp : ∀ j (hj : j < us.length), (us.toArray ++ Array.replicate (fn.ntmps - us.toArray.size) undef)[j]? = some us[j] := by
    intro j hj
    rw [Array.getElem?_append_left (by simpa using hj)]
    simp [hj]
  have hA : ∀ j (h1 : j < as.length) (h2 : j < us.length), repV lab W as[j].t as[j].m as[j].x us[j] j [] := fun j h1 h2 => by
    have := hall.2 j (by simp; omega) (by simp; omega)
    rw [pos_lt h2] at this
    have e1 : (as ++ gs)[j]'(by simp; omega) = as[j] := List.getElem_append_left h1
    have e2 : (us ++ gv)[j]'(by simp; omega) = us[j] := List.getElem_append_left h2
    rwa [e1, e2] at this
  have hG : ∀ j (h1 : j < gs.length) (h2 : j < gv.length), repV lab W gs[j].t gs[j].m gs[j].x gv[j] (gbase + j) [] := fun j h1 h2 => by
    have := hall.2 (us.length + j) (by simp; omega) (by simp; omega)
    have hp : pos us.length (us.length + j) = gbase + j := by unfold pos; rw [if_neg (by omega)]; omega
    rw [hp] at this
    have e1 : (as ++ gs)[us.length + j]'(by simp; omega) = gs[j] := by rw [List.getElem_append_right (by omega)]; congr 1; omega
    have e2 : (us ++ gv)[us.length + j]'(by simp; omega) = gv[j] := by rw [List.getElem_append_right (by omega)]; congr 1; omega
    rwa [e1, e2] at this
  have hR : Rel c (initEnv 0 as ++ ghEnv gbase gv gs) { tmps := us.toArray ++ Array.replicate (fn.ntmps - us.toArray.size) undef, defers := [] } W lab := by
    refine ⟨rfl, hsize, fun k u hm => ?_, ⟨rfl, rfl, rfl, Nat.le_refl _, fun b _ hl => ⟨hl, rfl⟩⟩, fun b q _ hl => ⟨hl, rfl⟩, fun k v v' h1 h2 => ?_, fun k v hm => ?_⟩
    · obtain ⟨j, hj, rfl, rfl⟩ := mem_fixU hm
      rw [Nat.zero_add]
      exact htmp j hj
    · rcases List.mem_append.1 h1 with h1 | h1 <;> rcases List.mem_append.1 h2 with h2 | h2
      · obtain ⟨j1, hj1, e1, rfl⟩ := mem_initEnv h1
        obtain ⟨j2, hj2, e2, rfl⟩ := mem_initEnv h2
        obtain rfl : j1 = j2 := by omega
        rfl
      · obtain ⟨j1, hj1, e1, rfl⟩ := mem_initEnv h1
        obtain ⟨j2, hj2, hj2', e2, rfl⟩ := mem_ghEnv h2
        unfold gbase at *; omega
      · obtain ⟨j1, hj1, hj1', e1, rfl⟩ := mem_ghEnv h1
        obtain ⟨j2, hj2, e2, rfl⟩ := mem_initEnv h2
        unfold gbase at *; omega
      · obtain ⟨j1, hj1, hj1', e1, rfl⟩ := mem_ghEnv h1
        obtain ⟨j2, hj2, hj2', e2, rfl⟩ := mem_ghEnv h2
        obtain rfl : j1 = j2 := by omega
        rfl
    · rcases List.mem_append.1 hm with hm | hm
      · obtain ⟨j, hj, rfl, rfl⟩ := mem_initEnv hm
        rw [Nat.zero_add]
        exact ⟨us[j]'(by omega), htmp j (by omega), hA j hj (by omega)⟩
      · obtain ⟨j, hj, hj', rfl, rfl⟩ := mem_ghEnv hm
        exact ⟨by unfold gbase; omega, hG j hj' hj⟩
  refine wp_mono (h c rfl (fun k u hm => ?_) (fun p hp => hp) _ W lab hR) ?_
  · obtain ⟨j, hj, rfl, _⟩ := mem_fixU hm
    exact mem_rangeU hj
  rintro e a' w' ⟨l', lab', hq, hR'⟩
  have fine : (∃ l'', ResTakes P l' fn.results.toList ys l'' ∧ argsBack l'' 0 as as' ∧ ghBack l'' gbase gv gs') → a'.defers = [] ∧ ∃ v, (results fn a'.tmps).run P w' = .ok v w' ∧ ∃ vs lab', Ending.returned v = .returned (retVal vs) ∧ HoldRes lab' w' ys vs ∧ HoldAll lab' w' us.length (as' ++ gs') (us ++ gv) ∧ Fr W lab w' lab' ∧
      ∀ b q, b < W.heap.size → lab b = some (hidden, q) → lab' b = some (hidden, q) ∧ w'.heap[b]? = W.heap[b]? := by
    rintro ⟨l'', hres, hback, hgback⟩
    obtain ⟨lab2, vs, hR2, hrun, hlen, hrep, _⟩ := resTakes_sound hres lab' 0 hR'
    obtain ⟨hxl, hxg⟩ := argsBack_get hback
    obtain ⟨hgl, hgg⟩ := ghBack_get hgback
    refine ⟨hR'.defers, retVal vs, run_results hrun, vs, lab2, rfl, ⟨hlen, fun k hk hk' => by simpa using hrep k hk hk'⟩, ⟨by simp; omega, fun i hi hi' => ?_⟩, hR2.fr, hR2.hid⟩
    by_cases hiu : i < us.length
    · have hia : i < as'.length := by omega
      rw [pos_lt hiu]
      have e1 : (as' ++ gs')[i]'hi = as'[i] := List.getElem_append_left hia
      have e2 : (us ++ gv)[i]'hi' = us[i] := List.getElem_append_left hiu
      rw [e1, e2]
      rcases hxg i (by omega) hia with ⟨h0, he⟩ | ⟨h0, he⟩
      · rw [he]
        have h1 := hA i (by omega) hiu
        rw [h0] at h1 ⊢
        exact ⟨h1.shape, rep_move_shared (fun b hb hl => hR2.fr.old b hb hl) h1.rep⟩
      · obtain ⟨u, hu, hr⟩ := hR2.vals _ _ (look_mem he)
        have hfix := hR2.fix _ _ (show (0 + i, us[i]) ∈ c.fix from fixU_mem hiu)
        rw [hu] at hfix
        rw [← Option.some.inj hfix]
        simpa using hr
    · obtain ⟨j, rfl⟩ : ∃ j, i = us.length + j := ⟨i - us.length, by omega⟩
      have hp : pos us.length (us.length + j) = gbase + j := by unfold pos; rw [if_neg (by omega)]; omega
      rw [hp]
      have hj1 : j < gs'.length := by simp at hi; omega
      have hj2 : j < gv.length := by simp at hi'; omega
      have e1 : (as' ++ gs')[us.length + j]'hi = gs'[j] := by rw [List.getElem_append_right (by omega)]; congr 1; omega
      have e2 : (us ++ gv)[us.length + j]'hi' = gv[j] := by rw [List.getElem_append_right (by omega)]; congr 1; omega
      rw [e1, e2]
      exact (hR2.vals _ _ (look_mem (hgg j hj2 hj1))).2
  cases e with
  | normal => exact fine hq
  | ret => exact fine hq
  | exit id => exact hq.elim
  | goto id => exact hq.elim
  | panic ch => exact hq.elim
  | outgrown => exact hq.elim

section
variable {P : Program} {c : Ctx} {l : Env} {Q : Exit → Env → Prop} {o : Oper}

/-- The value of a temporary is named; it stays from here on. -/
theorem AW.know (k : Nat) {n : Nat} {fx : List Nat} {code : Code} {t : Ty} {m : Nat} {x : den t} (hn : c.n = n) (hfx : ∀ k u, (k, u) ∈ c.fix → k ∈ fx) (hk : look l k = some (.val t m x))
    (h : ∀ (u : Value) (c' : Ctx), c'.n = n → (∀ j v, (j, v) ∈ c'.fix → j ∈ k :: fx) → (k, u) ∈ c'.fix → (∀ p, p ∈ c.fix → p ∈ c'.fix) → AW P c' code Q l) : AW P c code Q l := fun a w lab hR => by
  obtain ⟨u, hu, _⟩ := hR.vals _ _ (look_mem hk)
  have hR' : Rel { c with fix := (k, u) :: c.fix } l a w lab := ⟨hR.defers, hR.size, fun j v hm => by
    rcases List.mem_cons.1 hm with e | hm
    · obtain ⟨rfl, rfl⟩ := Prod.mk.inj e; exact hu
    · exact hR.fix j v hm, hR.fr, hR.hid, hR.uniq, hR.vals⟩
  refine wp_mono (h u { c with fix := (k, u) :: c.fix } hn (fun j v hm => ?_) (List.mem_cons_self ..) (fun p hp => List.mem_cons_of_mem _ hp) a w lab hR') ?_
  · rcases List.mem_cons.1 hm with e | hm
    · rw [(Prod.mk.inj e).1]; exact List.mem_cons_self ..
    · exact List.mem_cons_of_mem _ (hfx j v hm)
  · rintro e a' w' ⟨l', lab', h1, h2⟩
    exact ⟨l', lab', h1, h2.defers, h2.size, fun j v hm => h2.fix j v (List.mem_cons_of_mem _ hm), h2.fr, h2.hid, h2.uniq, h2.vals⟩

def KnownAll (c : Ctx) : List Operand → List Value → Prop
  | [], [] => True
  | .tmp k :: os, v :: vs => (k, v) ∈ c.fix ∧ KnownAll c os vs
  | .const u :: os, v :: vs => u = v ∧ KnownAll c os vs
  | _, _ => False

theorem known_eval {a : Act} {w : World} {lab : Lab} (hR : Rel c l a w lab) : ∀ {os : List Operand} {vs : List Value}, KnownAll c os vs → os.map a.eval = vs
  | [], [], _ => rfl
  | .tmp k :: os, v :: vs, h => by simp only [List.map_cons, eval_tmp (hR.fix _ _ h.1), known_eval hR h.2]
  | .const u :: os, v :: vs, h => by simp only [List.map_cons, known_eval hR h.2]; rw [show a.eval (.const u) = u from rfl, h.1]
  | .func f :: _, _, h => by simp [KnownAll] at h
  | .global g :: _, _, h => by simp [KnownAll] at h
  | [], _ :: _, h => by simp [KnownAll] at h
  | .tmp _ :: _, [], h => by simp [KnownAll] at h
  | .const _ :: _, [], h => by simp [KnownAll] at h

/-- A closure is made: its value is known, as far as what it captures is. -/
theorem r_mkfun {f : FuncId} {caps : Array Operand} {vs : List Value} (ho : o.op = .makeFunc (.func f) #[] caps) (hk : KnownAll c caps.toList vs) : SR P c l o ⟨[], some (.val .raw 0 (Value.func (.func f) #[] vs.toArray)), []⟩ := fun l' _ =>
  snd_value fun a w lab hR hd => ⟨.func (.func f) #[] vs.toArray, w, lab, by
    have : caps.map a.eval = vs.toArray := by apply Array.ext'; simp [known_eval hR hk]
    simp [execOp, ho, Instr.makeFunc, this], fin_free hR hd fun r p => repV_lone rfl ⟨rfl, rfl⟩⟩

def nilCmp : BinOp → Bool → Option Bool
  | .eql, b => some b
  | .neq, b => some (!b)
  | _, _ => none

/-- A slice that may be nil, compared with nil. -/
theorem r_cmpNil {op : BinOp} {xt yt : TypeId} {x : Operand} {ov : OV} {g : Tgt} {t : Ty} {y : Option (den t)} {s r : Bool} (ho : o.op = .binOp op xt x (.const (.slice none 0 0)) yt) (hx : view l x = some ov) (hg : owner ov = some g) (hs : sub g.p g.t g.x = some ⟨.opt t, y⟩)
    (hT : TyOK P xt (.opt t)) (hb : nilCmp op y.isNone = some s) (hr : s = r) : SR P c l o ⟨ov.rd, some (.val .bool 0 r), []⟩ :=
  snd_one hx fun act w lab l' hR h1 => by
    obtain ⟨t1, us1, A, u, hh⟩ := owner_own hR h1 hg
    obtain ⟨rfl, hrep⟩ := own_sub hh hs
    obtain ⟨_, d, hd, E, rfl⟩ := hT
    refine ⟨.bool r, ?_, fun _ _ => rep_bool⟩
    subst hr
    have hval : (y = none ∧ act.eval x = .slice none 0 0) ∨ ∃ z b len cap, y = some z ∧ act.eval x = .slice (some b) len cap := by
      simp only [rep] at hrep
      rcases hrep with ⟨h2, h3⟩ | ⟨z, b, len, cap, h2, h3, _⟩
      · exact .inl ⟨h2, by rw [hh.val, h3]; rfl⟩
      · exact .inr ⟨z, b, len, cap, h2, by rw [hh.val, h3]; rfl⟩
    have h0 : act.eval (.const (.slice none 0 0)) = .slice none 0 0 := rfl
    rcases hval with ⟨rfl, hv⟩ | ⟨z, b, len, cap, rfl, hv⟩
    · have heq : (Op.equal xt (.slice none 0 0) (.slice none 0 0)).run P w = .ok true w := by
        rw [Op.equal, show Op.maxDepth = 9999 + 1 from rfl, Op.equalIn]
        simp [run_underlying hd]
      cases op <;> simp only [nilCmp, Option.some.injEq, reduceCtorEq] at hb <;> subst hb <;> simp only [execOp, ho, hv, h0, eqGuard, binOp] <;> simp [heq]
    · have heq : (Op.equal xt (.slice (some b) len cap) (.slice none 0 0)).run P w = .ok false w := by
        rw [Op.equal, show Op.maxDepth = 9999 + 1 from rfl, Op.equalIn]
        simp [run_underlying hd]
      cases op <;> simp only [nilCmp, Option.some.injEq, reduceCtorEq] at hb <;> subst hb <;> simp only [execOp, ho, hv, h0, eqGuard, binOp] <;> simp [heq]

/-- A root's datum read by another type. -/
theorem AW.cast (k : Nat) {code : Code} {t t' : Ty} {m m' : Nat} {x : den t} {x' : den t'} (hk : look l k = some (.val t m x)) (hc : ∀ lab w u r, repV lab w t m x u r [] → repV lab w t' m' x' u r [])
    (h : AW P c code Q ((k, .val t' m' x') :: purge k false l)) : AW P c code Q l := fun a w lab hR => by
  obtain ⟨u, hu, hrep⟩ := hR.vals _ _ (look_mem hk)
  exact h a w lab (hR.put (look_mem hk) hu (hc _ _ _ _ hrep) hR.defers rfl (fun _ => rfl) hR.fr (fun j _ _ => Keeps.refl lab w j))

theorem repV_opt_of {lab : Lab} {w : World} {e : Ty} {m : Nat} {xs : List (den e)} {u : Value} {r : Nat} {p : Path} (h : xs ≠ []) (hr : repV lab w (.slc e) m xs u r p) : repV lab w (.opt (.slc e)) m (some xs) u r p := by
  refine ⟨fun h => by simp [Ty.agg] at h, ?_⟩
  have hr2 := hr.rep
  have hc1 : cellsOf (.slc e) u = [u] := rfl
  have hc2 : cellsOf (.opt (.slc e)) u = [u] := rfl
  rw [hc1] at hr2
  rw [hc2]
  have hr3 := hr2
  simp only [rep] at hr2 ⊢
  obtain ⟨base, cap, h1, h2, h3, h4⟩ := hr2
  rcases h4 with ⟨_, h5, _⟩ | ⟨g, off, cur, e', fz, h5, _⟩
  · exact absurd h5 h
  · subst h5
    exact .inr ⟨xs, _, _, _, rfl, h1, by simpa only [rep] using hr3⟩

theorem repV_of_opt {lab : Lab} {w : World} {e : Ty} {m : Nat} {y : Option (List (den e))} {u : Value} {r : Nat} {p : Path} (hr : repV lab w (.opt (.slc e)) m y u r p) : repV lab w (.slc e) m (y.getD []) u r p := by
  refine ⟨fun h => by simp [Ty.agg] at h, ?_⟩
  have hr2 := hr.rep
  have hc1 : cellsOf (.slc e) u = [u] := rfl
  have hc2 : cellsOf (.opt (.slc e)) u = [u] := rfl
  rw [hc2] at hr2
  rw [hc1]
  simp only [rep] at hr2
  rcases hr2 with ⟨rfl, h1⟩ | ⟨z, b, len, cap, rfl, h1, h2⟩
  · rw [h1]
    simp only [rep]
    exact ⟨none, 0, rfl, Nat.le_refl _, Nat.zero_le _, .inl ⟨rfl, rfl, rfl⟩⟩
  · exact h2

theorem repV_ptr_map {lab : Lab} {w : World} {t t' : Ty} {m : Nat} {x : den t} {x' : den t'} {u : Value} {r : Nat} {p : Path} (hc : t'.cells = t.cells) (h : ∀ us p, rep lab w t (m - 1) x us r p → rep lab w t' (m - 1) x' us r p)
    (hr : repV lab w (.ptr t) m x u r p) : repV lab w (.ptr t') m x' u r p := by
  refine ⟨fun h => by simp [Ty.agg] at h, ?_⟩
  have hr2 := hr.rep
  have hc1 : cellsOf (.ptr t) u = [u] := rfl
  have hc2 : cellsOf (.ptr t') u = [u] := rfl
  rw [hc1] at hr2
  rw [hc2]
  simp only [rep] at hr2 ⊢
  obtain ⟨g, off, cur, e, fz, h1, h2, h3, h4, h5⟩ := hr2
  exact ⟨g, off, cur, e, fz, h1, h2, by rw [hc]; exact h3, by rw [hc]; exact h4, h _ _ (by rw [hc]; exact h5)⟩

theorem cast_of_opt {e : Ty} {m : Nat} {y : Option (List (den e))} : ∀ lab w u r, repV lab w (.opt (.slc e)) m y u r [] → repV lab w (.slc e) m (y.getD []) u r [] := fun _ _ _ _ h => repV_of_opt h
theorem cast_opt {e : Ty} {m : Nat} {xs : List (den e)} (h : xs ≠ []) : ∀ lab w u r, repV lab w (.slc e) m xs u r [] → repV lab w (.opt (.slc e)) m (some xs) u r [] := fun _ _ _ _ hr => repV_opt_of h hr
theorem cast_ptr_of_opt {e : Ty} {m : Nat} {y : Option (List (den e))} : ∀ lab w u r, repV lab w (.ptr (.opt (.slc e))) m y u r [] → repV lab w (.ptr (.slc e)) m (y.getD []) u r [] := fun lab w u r h => by
  refine repV_ptr_map (t := .opt (.slc e)) (t' := .slc e) (x := y) (x' := y.getD []) rfl (fun us p h => ?_) h
  have hl := rep_length h
  match us, hl with
  | [u], _ => exact (repV_of_opt (u := u) ⟨fun h => by simp [Ty.agg] at h, h⟩).rep

end

theorem tyOK_raw {P : Program} {T : TypeId} {d : TypeDesc} (h : (P.info? T).map (fun i => (i.size, i.zero)) = some (1, some .nilFunc)) (hu : P.underlying T = some d) (h1 : (match d with | .struct _ => false | .array _ _ => false | _ => true) = true) : TyOK P T .raw := by
  obtain ⟨i, hi, h2, h3⟩ := info_of h
  refine ⟨⟨i, hi, h2, fun _ => ⟨_, h3, rfl⟩⟩, d, hu, fun fs he => by subst he; simp at h1, fun n e he => by subst he; simp at h1⟩

theorem tyOK_opt {P : Program} {T : TypeId} {E : TypeId} {t : Ty} (h : (P.info? T).map (fun i => (i.size, i.zero)) = some (1, some (.slice none 0 0))) (hu : P.underlying T = some (.slice E)) : TyOK P T (.opt t) := by
  obtain ⟨i, hi, h1, h2⟩ := info_of h
  exact ⟨⟨i, hi, h1, fun _ => ⟨_, h2, rfl⟩⟩, _, hu, E, rfl⟩

end Go.Abs
