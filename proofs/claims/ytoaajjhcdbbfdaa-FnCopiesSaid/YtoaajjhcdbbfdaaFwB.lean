/- The framework: walks of code that keep plain values. -/
import Derived.Test.YtoaajjhcdbbfdaaFwA
set_option linter.unusedSimpArgs false
set_option linter.unnecessarySimpa false
set_option linter.unusedVariables false
namespace Go.Abs

/-- The part of a datum at a path: its type, its cells, where its first cell lies. -/
def nav (w : World) : Path → (t : Ty) → List Value → Option Addr → Option (Ty × List Value × Option Addr)
  | [], t, us, A => some (t, us, A)
  | .l :: p, .prod a _, us, A => nav w p a (us.take a.cells) A
  | .r :: p, .prod a b, us, A => nav w p b (us.drop a.cells) (A.map fun A => ⟨A.block, A.off + a.cells, none⟩)
  | .e i :: p, .slc t, [.slice (some A) len _], _ =>
    if i < len then
      match w.heap[A.block]? with
      | some (.cells cur _ _) => nav w p t (cellsAt cur (A.off + i * t.cells) t.cells) (some ⟨A.block, A.off + i * t.cells, none⟩)
      | _ => none
    else none
  | .d :: p, .ptr t, [.pointer (some A)], _ =>
    match w.heap[A.block]? with
    | some (.cells cur _ _) => nav w p t (cellsAt cur A.off t.cells) (some ⟨A.block, A.off, none⟩)
    | _ => none
  | _, _, _, _ => none

def sub : Path → (t : Ty) → den t → Option ((t' : Ty) × den t')
  | [], t, x => some ⟨t, x⟩
  | .l :: p, .prod a _, x => sub p a x.1
  | .r :: p, .prod _ b, x => sub p b x.2
  | .e i :: p, .slc t, xs => match xs[i]? with | some x => sub p t x | none => none
  | .d :: p, .ptr t, x => sub p t x
  | _, _, _ => none

theorem rep_nav {lab : Lab} {w : World} : ∀ {q : Path} {t : Ty} {m : Nat} {x : den t} {us : List Value} {r : Nat} {p : Path} {t' : Ty} {x' : den t'} (A : Option Addr),
    rep lab w t m x us r p → sub q t x = some ⟨t', x'⟩ → ∃ us' A', nav w q t us A = some (t', us', A') ∧ rep lab w t' (m - dep q) x' us' r (p ++ q) := by
  intro q
  induction q with
  | nil =>
    intro t m x us r p t' x' A h hs
    simp only [sub, Option.some.injEq, Sigma.mk.injEq] at hs
    obtain ⟨rfl, hs⟩ := hs
    have hs := eq_of_heq hs
    subst hs
    exact ⟨us, A, rfl, by simpa [dep] using h⟩
  | cons s q ih =>
    intro t m x us r p t' x' A h hs
    cases s with
    | l =>
      cases t <;> simp only [sub] at hs <;> try exact absurd hs (by simp)
      simp only [rep] at h
      obtain ⟨u1, u2, rfl, h1, h2, h3⟩ := h
      obtain ⟨us', A', hn, hr⟩ := ih A h2 hs
      exact ⟨us', A', by simp only [nav]; rw [← h1, List.take_left]; exact hn, by simpa [dep] using hr⟩
    | r =>
      cases t <;> simp only [sub] at hs <;> try exact absurd hs (by simp)
      simp only [rep] at h
      obtain ⟨u1, u2, rfl, h1, h2, h3⟩ := h
      obtain ⟨us', A', hn, hr⟩ := ih (A.map fun A => ⟨A.block, A.off + u1.length, none⟩) h3 hs
      exact ⟨us', A', by simp only [nav]; rw [← h1, List.drop_left]; exact hn, by simpa [dep] using hr⟩
    | e i =>
      cases t <;> simp only [sub] at hs <;> try exact absurd hs (by simp)
      rename_i t
      split at hs
      case h_2 => exact absurd hs (by simp)
      rename_i y hy
      obtain ⟨hi, rfl⟩ := List.getElem?_eq_some_iff.1 hy
      simp only [rep] at h
      obtain ⟨base, cap, rfl, hc, hm, h⟩ := h
      rcases h with ⟨_, h, _⟩ | ⟨g, off, cur, e, fz, rfl, hg, hsz, ho, hr⟩
      · subst h; simp at hi
      · obtain ⟨us', A', hn, hr'⟩ := ih (some ⟨g, off + i * t.cells, none⟩) (hr i hi) hs
        refine ⟨us', A', by simp only [nav, hg, hi, if_true]; exact hn, ?_⟩
        simp only [dep]
        rw [show m - (dep q + 1) = m - 1 - dep q by omega]
        simpa using hr'
    | d =>
      cases t <;> simp only [sub] at hs <;> try exact absurd hs (by simp)
      rename_i t
      simp only [rep] at h
      obtain ⟨g, off, cur, e, fz, rfl, hg, hsz, ho, hr⟩ := h
      obtain ⟨us', A', hn, hr'⟩ := ih (some ⟨g, off, none⟩) hr hs
      refine ⟨us', A', by simp only [nav, hg]; exact hn, ?_⟩
      simp only [dep]
      rw [show m - (dep q + 1) = m - 1 - dep q by omega]
      simpa using hr'

/-- Where what a root owns and what is shared stands, its parts are found as before. -/
theorem nav_frame {lab : Lab} {w w' : World} : ∀ {q : Path} {t : Ty} {m : Nat} {x : den t} {us : List Value} {r : Nat} {p : Path} {A : Option Addr} {z : Ty × List Value × Option Addr},
    rep lab w t m x us r p → (∀ b, b < w.heap.size → lab b = none → w'.heap[b]? = w.heap[b]?) → (∀ b q, b < w.heap.size → lab b = some (r, p ++ q) → w'.heap[b]? = w.heap[b]?) →
    nav w q t us A = some z → nav w' q t us A = some z := by
  intro q
  induction q with
  | nil => intro t m x us r p A z _ _ _ h; simpa [nav] using h
  | cons s q ih =>
    intro t m x us r p A z h hs ho hn
    have ho' : ∀ s b q, b < w.heap.size → lab b = some (r, (p ++ [s]) ++ q) → w'.heap[b]? = w.heap[b]? := fun s b q hb hl => ho b (s :: q) hb (by simpa using hl)
    cases s with
    | l =>
      cases t <;> simp only [nav] at hn ⊢ <;> try exact absurd hn (by simp)
      simp only [rep] at h
      obtain ⟨u1, u2, rfl, h1, h2, h3⟩ := h
      rw [← h1, List.take_left] at hn ⊢
      exact ih h2 hs (ho' .l) hn
    | r =>
      cases t <;> simp only [nav] at hn ⊢ <;> try exact absurd hn (by simp)
      simp only [rep] at h
      obtain ⟨u1, u2, rfl, h1, h2, h3⟩ := h
      rw [← h1, List.drop_left] at hn ⊢
      exact ih h3 hs (ho' .r) hn
    | e i =>
      cases t <;> try exact absurd hn (by simp [nav])
      rename_i t
      simp only [rep] at h
      obtain ⟨base, cap, rfl, hc, hm, h⟩ := h
      rcases h with ⟨rfl, rfl, rfl⟩ | ⟨g, off, cur, e, fz, rfl, hg, hsz, hown, hr⟩
      · simp [nav] at hn
      · have hg' : w'.heap[g]? = some (.cells cur e fz) := by
          rcases hown with ⟨_, hl⟩ | ⟨_, hl, _⟩
          · rw [hs g (lt_of_heap hg) hl, hg]
          · rw [ho g [] (lt_of_heap hg) (by simpa using hl), hg]
        simp only [nav, hg] at hn
        simp only [nav, hg']
        split at hn
        · rename_i hi
          rw [if_pos hi]
          exact ih (hr i hi) hs (ho' (.e i)) hn
        · exact absurd hn (by simp)
    | d =>
      cases t <;> try exact absurd hn (by simp [nav])
      rename_i t
      simp only [rep] at h
      obtain ⟨g, off, cur, e, fz, rfl, hg, hsz, hown, hr⟩ := h
      have hg' : w'.heap[g]? = some (.cells cur e fz) := by
        rcases hown with ⟨_, hl⟩ | ⟨_, hl, _⟩
        · rw [hs g (lt_of_heap hg) hl, hg]
        · rw [ho g [] (lt_of_heap hg) (by simpa using hl), hg]
      simp only [nav, hg] at hn
      simp only [nav, hg']
      exact ih hr hs (ho' .d) hn

structure V where
  t : Ty
  m : Nat
  x : den t

inductive AX where
  | val (t : Ty) (m : Nat) (x : den t)
  | ref (r : Nat) (p : Path)
  | place (r : Nat) (p : Path)
  | tup (vs : List (Option V))
  | gh (u : Value) (t : Ty) (m : Nat) (x : den t)

abbrev Env := List (Nat × AX)

def look : Env → Nat → Option AX
  | [], _ => none
  | (j, v) :: l, k => match Nat.beq j k with | true => some v | false => look l k

/-- The cells of what a temporary holds, at a type. -/
def cellsOf (t : Ty) (u : Value) : List Value := match t.agg with | true => u.cells.toList | false => [u]
def mkV (t : Ty) (us : List Value) : Value := match t.agg with | true => .agg us.toArray | false => us.headD undef

structure repV (lab : Lab) (w : World) (t : Ty) (m : Nat) (x : den t) (u : Value) (r : Nat) (p : Path) : Prop where
  shape : t.agg = true → ∃ cs, u = .agg cs
  rep : rep lab w t m x (cellsOf t u) r p

def holds (l : Env) (lab : Lab) (w : World) (a : Act) (k : Nat) : AX → Prop
  | .val t m x => ∃ u, a.tmps[k]? = some u ∧ repV lab w t m x u k []
  | .ref r p => ∀ t m x, (r, AX.val t m x) ∈ l → ∃ u t' us' A, a.tmps[r]? = some u ∧ nav w p t (cellsOf t u) none = some (t', us', A) ∧ a.tmps[k]? = some (mkV t' us')
  | .place r p => ∀ t m x, (r, AX.val t m x) ∈ l → ∃ u t' us' A, a.tmps[r]? = some u ∧ nav w p t (cellsOf t u) none = some (t', us', some A) ∧ a.tmps[k]? = some (.pointer (some A))
  | .tup vs => ∃ us : List Value, a.tmps[k]? = some (.tuple us.toArray) ∧ us.length = vs.length ∧ ∀ i v, vs[i]? = some (some v) → ∃ u, us[i]? = some u ∧ repV lab w v.t v.m v.x u k [.e i]
  | .gh u t m x => k < 999999 ∧ repV lab w t m x u k []

/-- What a function's run leaves of the memory that was there. -/
structure Fr (W0 : World) (lab0 : Lab) (w : World) (lab : Lab) : Prop where
  os : w.os = W0.os
  tape : w.tape = W0.tape
  output : w.output = W0.output
  size : W0.heap.size ≤ w.heap.size
  old : ∀ b, b < W0.heap.size → lab0 b = none → lab b = none ∧ w.heap[b]? = W0.heap[b]?

structure Ctx where
  W0 : World
  lab0 : Lab
  fix : List (Nat × Value)
  n : Nat
  hn : n ≤ 999999

/-- The root of what the caller hides. -/
def hidden : Nat := 999999

structure Rel (c : Ctx) (l : Env) (a : Act) (w : World) (lab : Lab) : Prop where
  defers : a.defers = []
  size : a.tmps.size = c.n
  fix : ∀ k u, (k, u) ∈ c.fix → a.tmps[k]? = some u
  fr : Fr c.W0 c.lab0 w lab
  hid : ∀ b q, b < c.W0.heap.size → c.lab0 b = some (hidden, q) → lab b = some (hidden, q) ∧ w.heap[b]? = c.W0.heap[b]?
  uniq : ∀ k v v', (k, v) ∈ l → (k, v') ∈ l → v = v'
  vals : ∀ k v, (k, v) ∈ l → holds l lab w a k v

/-- Root k's own blocks and what is shared stand. -/
def Keeps (lab lab' : Lab) (w w' : World) (k : Nat) : Prop := Xfer lab lab' w w' k [] k [] none

theorem mkV_cellsOf {t : Ty} {u : Value} (h : t.agg = true → ∃ cs, u = .agg cs) : mkV t (cellsOf t u) = u := by
  unfold mkV cellsOf
  cases ht : t.agg with
  | true => obtain ⟨cs, rfl⟩ := h ht; simp [Value.cells]
  | false => simp

theorem cellsOf_mkV {t : Ty} {us : List Value} (h : t.agg = false → us.length = 1) : cellsOf t (mkV t us) = us := by
  unfold mkV cellsOf
  cases ht : t.agg with
  | true => simp [Value.cells]
  | false =>
    have := h ht
    match us, this with
    | [u], _ => simp

theorem cells_of_not_agg {t : Ty} (h : t.agg = false) : t.cells = 1 := by cases t <;> simp_all [Ty.agg, Ty.cells]

theorem repV_mk {lab : Lab} {w : World} {t : Ty} {m : Nat} {x : den t} {us : List Value} {r : Nat} {p : Path} (h : rep lab w t m x us r p) : repV lab w t m x (mkV t us) r p :=
  ⟨fun ht => ⟨us.toArray, by simp [mkV, ht]⟩, by rw [cellsOf_mkV fun ht => (rep_length h).trans (cells_of_not_agg ht)]; exact h⟩

theorem repV_xfer {lab lab' : Lab} {w w' : World} {t : Ty} {m : Nat} {x : den t} {u : Value} {r r' : Nat} {p p' : Path} {k : Option Nat}
    (h : repV lab w t m x u r p) (hx : Xfer lab lab' w w' r p r' p' k) : repV lab' w' t (cutTo k m) x u r' p' := ⟨h.shape, rep_xfer h.rep hx⟩

theorem Xfer.sub {lab lab' : Lab} {w w' : World} {k : Nat} (h : Keeps lab lab' w w' k) (p : Path) : Xfer lab lab' w w' k p k p none := by
  refine ⟨h.shr, fun b q hb hl => ?_⟩
  have := h.own b (p ++ q) hb (by simpa using hl)
  simpa [lessThan] using this

theorem repV_keep {lab lab' : Lab} {w w' : World} {t : Ty} {m : Nat} {x : den t} {u : Value} {k : Nat} {p : Path}
    (h : repV lab w t m x u k p) (hk : Keeps lab lab' w w' k) : repV lab' w' t m x u k p := repV_xfer h (Xfer.sub hk p)

/-- The root of what a temporary holds. -/
def rootOf (k : Nat) : AX → Nat
  | .ref r _ => r
  | .place r _ => r
  | _ => k

/-- What a temporary holds stands where its own slot, its root's slot and its root's blocks stand. -/
theorem holds_keep {l l' : Env} {lab lab' : Lab} {w w' : World} {a a' : Act} {k : Nat} {v : AX} (h : holds l lab w a k v)
    (ht : a'.tmps[k]? = a.tmps[k]?) (hr : a'.tmps[rootOf k v]? = a.tmps[rootOf k v]?) (hl : ∀ t m x, (rootOf k v, AX.val t m x) ∈ l' → (rootOf k v, AX.val t m x) ∈ l)
    (hv : ∀ t m x, (rootOf k v, AX.val t m x) ∈ l → ∃ u, a.tmps[rootOf k v]? = some u ∧ repV lab w t m x u (rootOf k v) [])
    (hb : a.tmps.size ≤ 1000000) (hk : rootOf k v < 1000000 → Keeps lab lab' w w' (rootOf k v)) : holds l' lab' w' a' k v := by
  have lt : ∀ {j : Nat} {u : Value}, a.tmps[j]? = some u → j < 1000000 := fun h => Nat.lt_of_lt_of_le (Array.getElem?_eq_some_iff.1 h).1 hb
  cases v with
  | val t m x =>
    obtain ⟨u, hu, hrep⟩ := h
    exact ⟨u, by rw [ht]; exact hu, repV_keep hrep (hk (lt hu))⟩
  | gh u t m x => exact ⟨h.1, repV_keep h.2 (hk (Nat.lt_of_lt_of_le h.1 (by decide)))⟩
  | tup vs =>
    obtain ⟨us, hu, hlen, hrep⟩ := h
    have hk := hk (lt hu)
    exact ⟨us, by rw [ht]; exact hu, hlen, fun i v hi => let ⟨u, h1, h2⟩ := hrep i v hi; ⟨u, h1, repV_keep h2 hk⟩⟩
  | ref r p =>
    intro t m x hl'
    simp only [rootOf] at *
    have hlr := hl t m x hl'
    obtain ⟨u, t', us', A, h1, h2, h3⟩ := h t m x hlr
    obtain ⟨u', h1', hrep⟩ := hv t m x hlr
    rw [h1] at h1'
    obtain rfl := Option.some.inj h1'
    have hk := hk (lt h1)
    exact ⟨u, t', us', A, by rw [hr]; exact h1, nav_frame hrep.rep (fun b hb hb' => (hk.shr b hb hb').2) (fun b q hb hb' => (hk.own b q hb (by simpa using hb')).2) h2, by rw [ht]; exact h3⟩
  | place r p =>
    intro t m x hl'
    simp only [rootOf] at *
    have hlr := hl t m x hl'
    obtain ⟨u, t', us', A, h1, h2, h3⟩ := h t m x hlr
    obtain ⟨u', h1', hrep⟩ := hv t m x hlr
    rw [h1] at h1'
    obtain rfl := Option.some.inj h1'
    have hk := hk (lt h1)
    exact ⟨u, t', us', A, by rw [hr]; exact h1, nav_frame hrep.rep (fun b hb hb' => (hk.shr b hb hb').2) (fun b q hb hb' => (hk.own b q hb (by simpa using hb')).2) h2, by rw [ht]; exact h3⟩


theorem look_mem : ∀ {l : Env} {k : Nat} {v : AX}, look l k = some v → (k, v) ∈ l
  | [], _, _, h => by simp [look] at h
  | (j, u) :: l, k, v, h => by
    simp only [look] at h
    split at h
    · rename_i hj
      have := Nat.eq_of_beq_eq_true hj
      simp at h
      simp [this, h]
    · exact List.mem_cons_of_mem _ (look_mem h)

theorem Rel.weaken {c : Ctx} {l l' : Env} {a : Act} {w : World} {lab : Lab} (h : Rel c l a w lab) (hs : ∀ kv ∈ l', kv ∈ l) : Rel c l' a w lab := by
  refine ⟨h.defers, h.size, h.fix, h.fr, h.hid, fun k v v' h1 h2 => h.uniq k v v' (hs _ h1) (hs _ h2), fun k v hm => ?_⟩
  have hh := h.vals k v (hs _ hm)
  cases v with
  | val t m x => exact hh
  | tup vs => exact hh
  | gh u t m x => exact hh
  | ref r p => exact fun t m x hl => hh t m x (hs _ hl)
  | place r p => exact fun t m x hl => hh t m x (hs _ hl)

/-- What an operation does to the abstract state: what it reads, what its own slot holds, what becomes of other roots. -/
structure Out where
  rd : List Nat
  val : Option AX
  upd : List (Nat × Option AX)

def isRefTo (all : Bool) (r : Nat) : AX → Bool
  | .ref r' p => match Nat.beq r' r with | true => (match all with | true => true | false => (match p with | [] => false | _ :: _ => true)) | false => false
  | .place r' _ => Nat.beq r' r
  | _ => false

def purge (r : Nat) (all : Bool) : Env → Env
  | [] => []
  | (k, v) :: l => match Nat.beq k r with
    | true => purge r all l
    | false => match isRefTo all r v with
      | true => purge r all l
      | false => (k, v) :: purge r all l

theorem mem_purge {r : Nat} {all : Bool} : ∀ {l : Env} {kv : Nat × AX}, kv ∈ purge r all l → kv ∈ l ∧ kv.1 ≠ r ∧ isRefTo all r kv.2 = false
  | [], _, h => by simp [purge] at h
  | (k, v) :: l, kv, h => by
    simp only [purge] at h
    split at h
    · exact let ⟨a, b⟩ := mem_purge h; ⟨List.mem_cons_of_mem _ a, b⟩
    · rename_i hk
      split at h
      · exact let ⟨a, b⟩ := mem_purge h; ⟨List.mem_cons_of_mem _ a, b⟩
      · rename_i hr
        rcases List.mem_cons.1 h with rfl | h
        · refine ⟨List.mem_cons_self .., fun e => ?_, hr⟩
          exact Nat.ne_of_beq_eq_false hk e
        · exact let ⟨a, b⟩ := mem_purge h; ⟨List.mem_cons_of_mem _ a, b⟩

def applyUpd (l : Env) : List (Nat × Option AX) → Env
  | [] => l
  | (r, none) :: us => applyUpd (purge r true l) us
  | (r, some ax) :: us => applyUpd ((r, ax) :: purge r false l) us

def after (l : Env) (dst : Option Tmp) (o : Out) : Env :=
  match dst, o.val with
  | some d, some v => (d, v) :: purge d true (applyUpd l o.upd)
  | some d, none => purge d true (applyUpd l o.upd)
  | none, _ => applyUpd l o.upd

end Go.Abs
