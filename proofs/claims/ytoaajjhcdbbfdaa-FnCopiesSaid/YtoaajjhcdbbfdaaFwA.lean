/- The framework: walks of code that keep plain values. -/
import Derived.WalkKit
set_option linter.unusedSimpArgs false
set_option linter.unnecessarySimpa false
set_option linter.unusedVariables false
namespace Go.Abs

inductive Ty where
  | int (k : IntKind) | bool | str | raw | unit | hole
  | prod (a b : Ty) | slc (t : Ty) | ptr (t : Ty) | opt (t : Ty) | may (t : Ty) | shr (t : Ty)
  deriving DecidableEq

@[reducible] def den : Ty → Type
  | .int _ => Int
  | .bool => Bool
  | .str => List UInt8
  | .raw => Value
  | .unit => Unit
  | .hole => Unit
  | .prod a b => den a × den b
  | .slc t => List (den t)
  | .ptr t => den t
  | .opt t => Option (den t)
  | .may t => Value ⊕ den t
  | .shr t => List (den t)

def Ty.cells : Ty → Nat
  | .prod a b => a.cells + b.cells
  | .unit => 0
  | _ => 1

def Ty.agg : Ty → Bool
  | .prod _ _ => true
  | .unit => true
  | _ => false

/-- Whether a type holds slices or pointers, and how deep they nest. -/
def Ty.depth : Ty → Nat
  | .prod a b => max a.depth b.depth
  | .slc t => t.depth + 1
  | .ptr t => t.depth + 1
  | .opt t => t.depth
  | .may t => t.depth
  | .shr _ => 1001
  | _ => 0

inductive Step where | l | r | e (i : Nat) | d
  deriving DecidableEq

abbrev Path := List Step

def dep : Path → Nat
  | [] => 0
  | .e _ :: p => dep p + 1
  | .d :: p => dep p + 1
  | .l :: p => dep p
  | .r :: p => dep p

theorem dep_append (p q : Path) : dep (p ++ q) = dep p + dep q := by
  induction p with
  | nil => simp [dep]
  | cons s p ih => cases s <;> simp [dep, ih] <;> omega

abbrev Lab := Nat → Option (Nat × Path)

def cellsAt (cur : Array Value) (o n : Nat) : List Value := (cur.toList.drop o).take n

/-- How a datum of a type lies in cells. -/
def rep (lab : Lab) (w : World) : (t : Ty) → Nat → den t → List Value → Nat → Path → Prop
  | .int k, _, n, us, _, _ => us = [.int k n]
  | .bool, _, b, us, _, _ => us = [.bool b]
  | .str, _, s, us, _, _ => us = [.string ⟨s.toArray⟩]
  | .raw, _, v, us, _, _ => us = [v] ∧ v.oneCell' = true
  | .unit, _, _, us, _, _ => us = []
  | .hole, _, _, us, _, _ => ∃ v, us = [v] ∧ v.oneCell' = true
  | .prod a b, m, x, us, r, p => ∃ u1 u2, us = u1 ++ u2 ∧ u1.length = a.cells ∧ rep lab w a m x.1 u1 r (p ++ [.l]) ∧ rep lab w b m x.2 u2 r (p ++ [.r])
  | .slc t, m, xs, us, r, p => ∃ base cap, us = [.slice base xs.length cap] ∧ xs.length ≤ cap ∧ cap ≤ maxLen ∧
      ((base = none ∧ xs = [] ∧ cap = 0) ∨
       ∃ g off cur e fz, base = some ⟨g, off, none⟩ ∧ w.heap[g]? = some (.cells cur e fz) ∧ off + xs.length * t.cells ≤ cur.size ∧
        ((m = 0 ∧ lab g = none) ∨ (0 < m ∧ lab g = some (r, p) ∧ off = 0 ∧ fz = (0, 0) ∧ cur.size = cap * t.cells)) ∧
        ∀ i (h : i < xs.length), rep lab w t (m - 1) xs[i] (cellsAt cur (off + i * t.cells) t.cells) r (p ++ [.e i]))
  | .ptr t, m, x, us, r, p => ∃ g off cur e fz, us = [.pointer (some ⟨g, off, none⟩)] ∧ w.heap[g]? = some (.cells cur e fz) ∧ off + t.cells ≤ cur.size ∧
      ((m = 0 ∧ lab g = none) ∨ (0 < m ∧ lab g = some (r, p) ∧ off = 0 ∧ fz = (0, 0) ∧ cur.size = t.cells)) ∧
      rep lab w t (m - 1) x (cellsAt cur off t.cells) r (p ++ [.d])
  | .opt t, m, x, us, r, p => (x = none ∧ us = [.slice none 0 0]) ∨ ∃ y b len cap, x = some y ∧ us = [.slice (some b) len cap] ∧ rep lab w t m y us r p
  | .may t, m, x, us, r, p => (∃ v, x = .inl v ∧ us = [v] ∧ v.oneCell' = true) ∨ ∃ y v, x = .inr y ∧ us = [v] ∧ rep lab w t m y us r p
  | .shr t, m, xs, us, r, p => ∃ base cap, us = [.slice base xs.length cap] ∧ xs.length ≤ cap ∧ cap ≤ maxLen ∧
      ((base = none ∧ xs = [] ∧ cap = 0) ∨
       (m ≤ 1000 ∧ ∃ g off cur e fz, base = some ⟨g, off, none⟩ ∧ w.heap[g]? = some (.cells cur e fz) ∧ off + xs.length * t.cells ≤ cur.size ∧ lab g = none ∧
        ∀ i (h : i < xs.length), rep lab w t 0 xs[i] (cellsAt cur (off + i * t.cells) t.cells) r (p ++ [.e i])))

theorem cellsAt_length {cur : Array Value} {o n : Nat} (h : o + n ≤ cur.size) : (cellsAt cur o n).length = n := by
  simp [cellsAt]; omega

theorem rep_length {lab : Lab} {w : World} : ∀ {t : Ty} {m : Nat} {x : den t} {us : List Value} {r : Nat} {p : Path}, rep lab w t m x us r p → us.length = t.cells := by
  intro t
  induction t with
  | int k => intro m x us r p h; simp only [rep] at h; simp [h, Ty.cells]
  | bool => intro m x us r p h; simp only [rep] at h; simp [h, Ty.cells]
  | str => intro m x us r p h; simp only [rep] at h; simp [h, Ty.cells]
  | raw => intro m x us r p h; simp only [rep] at h; simp [h.1, Ty.cells]
  | hole => intro m x us r p h; simp only [rep] at h; obtain ⟨v, rfl, _⟩ := h; simp [Ty.cells]
  | unit => intro m x us r p h; simp only [rep] at h; simp [h, Ty.cells]
  | prod a b iha ihb =>
    intro m x us r p h
    simp only [rep] at h
    obtain ⟨u1, u2, rfl, h1, h2, h3⟩ := h
    simp [Ty.cells, h1, ihb h3]
  | slc t ih => intro m x us r p h; simp only [rep] at h; obtain ⟨b, c, rfl, _⟩ := h; simp [Ty.cells]
  | ptr t ih => intro m x us r p h; simp only [rep] at h; obtain ⟨g, off, cur, e, fz, rfl, _⟩ := h; simp [Ty.cells]
  | opt t ih => intro m x us r p h; simp only [rep] at h; rcases h with ⟨_, rfl⟩ | ⟨y, b, len, cap, _, rfl, _⟩ <;> simp [Ty.cells]
  | may t ih => intro m x us r p h; simp only [rep] at h; rcases h with ⟨v, _, rfl, _⟩ | ⟨y, v, _, rfl, _⟩ <;> simp [Ty.cells]
  | shr t ih => intro m x us r p h; simp only [rep] at h; obtain ⟨b, c, rfl, _⟩ := h; simp [Ty.cells]

/-- Every cell of a datum can be stored. -/
theorem rep_oneCell {lab : Lab} {w : World} : ∀ {t : Ty} {m : Nat} {x : den t} {us : List Value} {r : Nat} {p : Path}, rep lab w t m x us r p → ∀ v ∈ us, v.oneCell' = true := by
  intro t
  induction t with
  | int k => intro m x us r p h; simp only [rep] at h; subst h; simp [Value.oneCell']
  | bool => intro m x us r p h; simp only [rep] at h; subst h; simp [Value.oneCell']
  | str => intro m x us r p h; simp only [rep] at h; subst h; simp [Value.oneCell']
  | raw => intro m x us r p h; simp only [rep] at h; obtain ⟨rfl, h⟩ := h; simpa using h
  | hole => intro m x us r p h; simp only [rep] at h; obtain ⟨v, rfl, h⟩ := h; simpa using h
  | unit => intro m x us r p h; simp only [rep] at h; subst h; simp
  | prod a b iha ihb =>
    intro m x us r p h
    simp only [rep] at h
    obtain ⟨u1, u2, rfl, h1, h2, h3⟩ := h
    intro v hv
    rcases List.mem_append.1 hv with hv | hv
    · exact iha h2 v hv
    · exact ihb h3 v hv
  | slc t ih => intro m x us r p h; simp only [rep] at h; obtain ⟨b, c, rfl, _⟩ := h; simp [Value.oneCell']
  | ptr t ih => intro m x us r p h; simp only [rep] at h; obtain ⟨g, off, cur, e, fz, rfl, _⟩ := h; simp [Value.oneCell']
  | opt t ih => intro m x us r p h; simp only [rep] at h; rcases h with ⟨_, rfl⟩ | ⟨y, b, len, cap, _, rfl, _⟩ <;> simp [Value.oneCell']
  | may t ih =>
    intro m x us r p h
    simp only [rep] at h
    rcases h with ⟨v, _, rfl, hv⟩ | ⟨y, v, _, rfl, h⟩
    · simpa using hv
    · exact ih h
  | shr t ih => intro m x us r p h; simp only [rep] at h; obtain ⟨b, c, rfl, _⟩ := h; simp [Value.oneCell']

/-- A number of levels, or all. -/
def lessThan (k : Option Nat) (n : Nat) : Bool := match k with | none => true | some k => decide (n < k)
def cutTo (k : Option Nat) (m : Nat) : Nat := match k with | none => m | some k => min m k
def lowerBy (k : Option Nat) (n : Nat) : Option Nat := k.map (· - n)

/-- From one memory and labelling to another: what is shared stays; what the root (r, p) owns is carried to (r', p'), down to depth k; below that it is shared from now on. -/
structure Xfer (lab lab' : Lab) (w w' : World) (r : Nat) (p : Path) (r' : Nat) (p' : Path) (k : Option Nat) : Prop where
  shr : ∀ b, b < w.heap.size → lab b = none → lab' b = none ∧ w'.heap[b]? = w.heap[b]?
  own : ∀ b q, b < w.heap.size → lab b = some (r, p ++ q) → lab' b = (if lessThan k (dep q) then some (r', p' ++ q) else none) ∧ w'.heap[b]? = w.heap[b]?

theorem Xfer.step {lab lab' : Lab} {w w' : World} {r r' : Nat} {p p' : Path} {k : Option Nat} (h : Xfer lab lab' w w' r p r' p' k) (s : Step) :
    Xfer lab lab' w w' r (p ++ [s]) r' (p' ++ [s]) (lowerBy k (dep [s])) := by
  refine ⟨h.shr, fun b q hb hl => ?_⟩
  have := h.own b (s :: q) hb (by simpa using hl)
  refine ⟨?_, this.2⟩
  rw [this.1]
  have e : lessThan k (dep (s :: q)) = lessThan (lowerBy k (dep [s])) (dep q) := by
    cases k with
    | none => simp [lowerBy, lessThan]
    | some k =>
      simp only [lowerBy, lessThan, Option.map, decide_eq_decide]
      cases s <;> simp only [dep] <;> omega
  rw [e]
  simp

theorem lt_of_heap {w : World} {g : Nat} {o : Obj} (h : w.heap[g]? = some o) : g < w.heap.size := (Array.getElem?_eq_some_iff.1 h).1

theorem lessThan_zero {k : Option Nat} {m : Nat} (hm : 0 < m) : (lessThan k 0 = true → 0 < cutTo k m) ∧ (lessThan k 0 = false → cutTo k m = 0) := by
  cases k <;> simp [lessThan, cutTo] <;> omega
theorem cutTo_zero (k : Option Nat) : cutTo k 0 = 0 := by cases k <;> simp [cutTo]
theorem cutTo_le (k : Option Nat) (m : Nat) : cutTo k m ≤ m := by cases k <;> simp [cutTo]; omega
theorem cutTo_pred (k : Option Nat) (m : Nat) : cutTo (lowerBy k 1) (m - 1) = cutTo k m - 1 := by cases k <;> simp [cutTo, lowerBy]; omega

theorem rep_xfer {lab lab' : Lab} {w w' : World} : ∀ {t : Ty} {m : Nat} {x : den t} {us : List Value} {r r' : Nat} {p p' : Path} {k : Option Nat},
    rep lab w t m x us r p → Xfer lab lab' w w' r p r' p' k → rep lab' w' t (cutTo k m) x us r' p' := by
  intro t
  induction t with
  | int k => intro m x us r r' p p' k h _; exact h
  | bool => intro m x us r r' p p' k h _; exact h
  | str => intro m x us r r' p p' k h _; exact h
  | raw => intro m x us r r' p p' k h _; exact h
  | unit => intro m x us r r' p p' k h _; exact h
  | hole => intro m x us r r' p p' k h _; exact h
  | prod a b iha ihb =>
    intro m x us r r' p p' k h hx
    simp only [rep] at h ⊢
    obtain ⟨u1, u2, rfl, h1, h2, h3⟩ := h
    have e : lowerBy k 0 = k := by cases k <;> simp [lowerBy]
    exact ⟨u1, u2, rfl, h1, iha h2 (by simpa [dep, e] using hx.step .l), ihb h3 (by simpa [dep, e] using hx.step .r)⟩
  | slc t ih =>
    intro m x us r r' p p' k h hx
    simp only [rep] at h ⊢
    obtain ⟨base, cap, rfl, hc, hm, h⟩ := h
    refine ⟨base, cap, rfl, hc, hm, ?_⟩
    rcases h with h | ⟨g, off, cur, e, fz, rfl, hg, hsz, ho, hr⟩
    · exact .inl h
    · refine .inr ⟨g, off, cur, e, fz, rfl, ?_, hsz, ?_, fun i hi => ?_⟩
      · rcases ho with ⟨_, ho⟩ | ⟨_, ho, _⟩
        · rw [(hx.shr g (lt_of_heap hg) ho).2, hg]
        · rw [(hx.own g [] (lt_of_heap hg) (by simpa using ho)).2, hg]
      · rcases ho with ⟨h0, ho⟩ | ⟨h0, ho, h2, h3, h4⟩
        · exact .inl ⟨by rw [h0, cutTo_zero], (hx.shr g (lt_of_heap hg) ho).1⟩
        · have := (hx.own g [] (lt_of_heap hg) (by simpa using ho)).1
          simp only [dep, List.append_nil] at this
          cases hk : lessThan k 0 with
          | true => rw [hk, if_pos rfl] at this; exact .inr ⟨(lessThan_zero h0).1 hk, this, h2, h3, h4⟩
          | false => rw [hk] at this; exact .inl ⟨(lessThan_zero h0).2 hk, by simpa using this⟩
      · have := ih (hr i hi) (hx.step (.e i))
        simp only [dep] at this
        rwa [cutTo_pred] at this
  | ptr t ih =>
    intro m x us r r' p p' k h hx
    simp only [rep] at h ⊢
    obtain ⟨g, off, cur, e, fz, rfl, hg, hsz, ho, hr⟩ := h
    refine ⟨g, off, cur, e, fz, rfl, ?_, hsz, ?_, ?_⟩
    · rcases ho with ⟨_, ho⟩ | ⟨_, ho, _⟩
      · rw [(hx.shr g (lt_of_heap hg) ho).2, hg]
      · rw [(hx.own g [] (lt_of_heap hg) (by simpa using ho)).2, hg]
    · rcases ho with ⟨h0, ho⟩ | ⟨h0, ho, h2, h3, h4⟩
      · exact .inl ⟨by rw [h0, cutTo_zero], (hx.shr g (lt_of_heap hg) ho).1⟩
      · have := (hx.own g [] (lt_of_heap hg) (by simpa using ho)).1
        simp only [dep, List.append_nil] at this
        cases hk : lessThan k 0 with
        | true => rw [hk, if_pos rfl] at this; exact .inr ⟨(lessThan_zero h0).1 hk, this, h2, h3, h4⟩
        | false => rw [hk] at this; exact .inl ⟨(lessThan_zero h0).2 hk, by simpa using this⟩
    · have := ih hr (hx.step .d)
      simp only [dep] at this
      rwa [cutTo_pred] at this
  | opt t ih =>
    intro m x us r r' p p' k h hx
    simp only [rep] at h ⊢
    exact h.imp id fun ⟨y, b, len, cap, h1, h2, h3⟩ => ⟨y, b, len, cap, h1, h2, ih h3 hx⟩
  | may t ih =>
    intro m x us r r' p p' k h hx
    simp only [rep] at h ⊢
    exact h.imp id fun ⟨y, v, h1, h2, h3⟩ => ⟨y, v, h1, h2, ih h3 hx⟩
  | shr t ih =>
    intro m x us r r' p p' k h hx
    simp only [rep] at h ⊢
    obtain ⟨base, cap, rfl, hc, hm, h⟩ := h
    refine ⟨base, cap, rfl, hc, hm, ?_⟩
    rcases h with h | ⟨hm1, g, off, cur, e, fz, rfl, hg, hsz, ho, hr⟩
    · exact .inl h
    · refine .inr ⟨Nat.le_trans (cutTo_le k m) hm1, g, off, cur, e, fz, rfl, by rw [(hx.shr g (lt_of_heap hg) ho).2, hg], hsz, (hx.shr g (lt_of_heap hg) ho).1, fun i hi => ?_⟩
      have := ih (hr i hi) (hx.step (.e i))
      rwa [cutTo_zero] at this

/-- Without slices and pointers nothing hangs on memory. -/
theorem rep_flat {lab lab' : Lab} {w w' : World} : ∀ {t : Ty} {m m' : Nat} {x : den t} {us : List Value} {r r' : Nat} {p p' : Path},
    t.depth = 0 → rep lab w t m x us r p → rep lab' w' t m' x us r' p' := by
  intro t
  induction t with
  | int k => intro m m' x us r r' p p' _ h; exact h
  | bool => intro m m' x us r r' p p' _ h; exact h
  | str => intro m m' x us r r' p p' _ h; exact h
  | raw => intro m m' x us r r' p p' _ h; exact h
  | unit => intro m m' x us r r' p p' _ h; exact h
  | hole => intro m m' x us r r' p p' _ h; exact h
  | prod a b iha ihb =>
    intro m m' x us r r' p p' hd h
    simp only [Ty.depth] at hd
    simp only [rep] at h ⊢
    obtain ⟨u1, u2, rfl, h1, h2, h3⟩ := h
    exact ⟨u1, u2, rfl, h1, iha (by omega) h2, ihb (by omega) h3⟩
  | slc t ih => intro m m' x us r r' p p' hd h; simp [Ty.depth] at hd
  | ptr t ih => intro m m' x us r r' p p' hd h; simp [Ty.depth] at hd
  | opt t ih =>
    intro m m' x us r r' p p' hd h
    simp only [rep] at h ⊢
    exact h.imp id fun ⟨y, b, len, cap, h1, h2, h3⟩ => ⟨y, b, len, cap, h1, h2, ih (by simpa [Ty.depth] using hd) h3⟩
  | may t ih =>
    intro m m' x us r r' p p' hd h
    simp only [rep] at h ⊢
    exact h.imp id fun ⟨y, v, h1, h2, h3⟩ => ⟨y, v, h1, h2, ih (by simpa [Ty.depth] using hd) h3⟩
  | shr t ih => intro m m' x us r r' p p' hd h; simp [Ty.depth] at hd

/-- What is shared says nothing of a place. -/
theorem rep_shared {lab : Lab} {w : World} : ∀ {t : Ty} {x : den t} {us : List Value} {r r' : Nat} {p p' : Path},
    rep lab w t 0 x us r p → rep lab w t 0 x us r' p' := by
  intro t
  induction t with
  | int k => intro x us r r' p p' h; exact h
  | bool => intro x us r r' p p' h; exact h
  | str => intro x us r r' p p' h; exact h
  | raw => intro x us r r' p p' h; exact h
  | unit => intro x us r r' p p' h; exact h
  | hole => intro x us r r' p p' h; exact h
  | prod a b iha ihb =>
    intro x us r r' p p' h
    simp only [rep] at h ⊢
    obtain ⟨u1, u2, rfl, h1, h2, h3⟩ := h
    exact ⟨u1, u2, rfl, h1, iha h2, ihb h3⟩
  | slc t ih =>
    intro x us r r' p p' h
    simp only [rep] at h ⊢
    obtain ⟨base, cap, rfl, hc, hm, h⟩ := h
    refine ⟨base, cap, rfl, hc, hm, ?_⟩
    rcases h with h | ⟨g, off, cur, e, fz, rfl, hg, hsz, ho, hr⟩
    · exact .inl h
    · refine .inr ⟨g, off, cur, e, fz, rfl, hg, hsz, ?_, fun i hi => ih (hr i hi)⟩
      rcases ho with ho | ⟨h0, _⟩
      · exact .inl ho
      · omega
  | ptr t ih =>
    intro x us r r' p p' h
    simp only [rep] at h ⊢
    obtain ⟨g, off, cur, e, fz, rfl, hg, hsz, ho, hr⟩ := h
    refine ⟨g, off, cur, e, fz, rfl, hg, hsz, ?_, ih hr⟩
    rcases ho with ho | ⟨h0, _⟩
    · exact .inl ho
    · omega
  | opt t ih =>
    intro x us r r' p p' h
    simp only [rep] at h ⊢
    exact h.imp id fun ⟨y, b, len, cap, h1, h2, h3⟩ => ⟨y, b, len, cap, h1, h2, ih h3⟩
  | may t ih =>
    intro x us r r' p p' h
    simp only [rep] at h ⊢
    exact h.imp id fun ⟨y, v, h1, h2, h3⟩ => ⟨y, v, h1, h2, ih h3⟩
  | shr t ih =>
    intro x us r r' p p' h
    simp only [rep] at h ⊢
    obtain ⟨base, cap, rfl, hc, hm, h⟩ := h
    refine ⟨base, cap, rfl, hc, hm, ?_⟩
    exact h.imp id fun ⟨hm1, g, off, cur, e, fz, h1, hg, hsz, ho, hr⟩ => ⟨hm1, g, off, cur, e, fz, h1, hg, hsz, ho, fun i hi => ih (hr i hi)⟩

/-- More owned levels than there are levels say nothing more. -/
theorem rep_full {lab : Lab} {w : World} : ∀ {t : Ty} {m m' : Nat} {x : den t} {us : List Value} {r : Nat} {p : Path},
    t.depth ≤ m → t.depth ≤ m' → rep lab w t m x us r p → rep lab w t m' x us r p := by
  intro t
  induction t with
  | int k => intro m m' x us r p _ _ h; exact h
  | bool => intro m m' x us r p _ _ h; exact h
  | str => intro m m' x us r p _ _ h; exact h
  | raw => intro m m' x us r p _ _ h; exact h
  | unit => intro m m' x us r p _ _ h; exact h
  | hole => intro m m' x us r p _ _ h; exact h
  | prod a b iha ihb =>
    intro m m' x us r p hd hd' h
    simp only [Ty.depth] at hd hd'
    simp only [rep] at h ⊢
    obtain ⟨u1, u2, rfl, h1, h2, h3⟩ := h
    exact ⟨u1, u2, rfl, h1, iha (by omega) (by omega) h2, ihb (by omega) (by omega) h3⟩
  | slc t ih =>
    intro m m' x us r p hd hd' h
    simp only [Ty.depth] at hd hd'
    simp only [rep] at h ⊢
    obtain ⟨base, cap, rfl, hc, hm, h⟩ := h
    refine ⟨base, cap, rfl, hc, hm, ?_⟩
    rcases h with h | ⟨g, off, cur, e, fz, rfl, hg, hsz, ho, hr⟩
    · exact .inl h
    · refine .inr ⟨g, off, cur, e, fz, rfl, hg, hsz, ?_, fun i hi => ih (by omega) (by omega) (hr i hi)⟩
      rcases ho with ⟨h0, _⟩ | ⟨_, h⟩
      · omega
      · exact .inr ⟨by omega, h⟩
  | ptr t ih =>
    intro m m' x us r p hd hd' h
    simp only [Ty.depth] at hd hd'
    simp only [rep] at h ⊢
    obtain ⟨g, off, cur, e, fz, rfl, hg, hsz, ho, hr⟩ := h
    refine ⟨g, off, cur, e, fz, rfl, hg, hsz, ?_, ih (by omega) (by omega) hr⟩
    rcases ho with ⟨h0, _⟩ | ⟨_, h⟩
    · omega
    · exact .inr ⟨by omega, h⟩
  | opt t ih =>
    intro m m' x us r p hd hd' h
    simp only [rep] at h ⊢
    exact h.imp id fun ⟨y, b, len, cap, h1, h2, h3⟩ => ⟨y, b, len, cap, h1, h2, ih (by simpa [Ty.depth] using hd) (by simpa [Ty.depth] using hd') h3⟩
  | may t ih =>
    intro m m' x us r p hd hd' h
    simp only [rep] at h ⊢
    exact h.imp id fun ⟨y, v, h1, h2, h3⟩ => ⟨y, v, h1, h2, ih (by simpa [Ty.depth] using hd) (by simpa [Ty.depth] using hd') h3⟩
  | shr t ih =>
    intro m m' x us r p hd hd' h
    simp only [rep] at h ⊢
    obtain ⟨base, cap, rfl, hc, hm, h⟩ := h
    refine ⟨base, cap, rfl, hc, hm, ?_⟩
    refine h.imp id fun ⟨hm1, h⟩ => ?_
    simp only [Ty.depth] at hd
    omega

end Go.Abs
