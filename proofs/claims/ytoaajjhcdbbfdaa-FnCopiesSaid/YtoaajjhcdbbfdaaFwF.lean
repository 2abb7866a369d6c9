/- The framework: walks of code that keep plain values. -/
import Derived.Test.YtoaajjhcdbbfdaaFwE
set_option linter.unusedSimpArgs false
set_option linter.unnecessarySimpa false
set_option linter.unusedVariables false
namespace Go.Abs

def zeroOk : Ty → Bool
  | .prod a b => match zeroOk a with | true => zeroOk b | false => false
  | .hole => false
  | .ptr _ => false
  | _ => true

def zeroD : (t : Ty) → den t
  | .int _ => (0 : Int)
  | .bool => false
  | .str => ([] : List UInt8)
  | .raw => Value.nilFunc
  | .unit => ()
  | .hole => ()
  | .prod a b => (zeroD a, zeroD b)
  | .slc t => ([] : List (den t))
  | .ptr t => zeroD t
  | .opt t => (none : Option (den t))
  | .may t => (.inl (Value.slice none 0 0) : Value ⊕ den t)
  | .shr t => ([] : List (den t))

def zeroC : Ty → List Value
  | .int k => [.int k 0]
  | .bool => [.bool false]
  | .str => [.string ⟨#[]⟩]
  | .raw => [.nilFunc]
  | .hole => [.bool false]
  | .unit => []
  | .prod a b => zeroC a ++ zeroC b
  | .slc _ => [.slice none 0 0]
  | .ptr _ => [.pointer none]
  | .opt _ => [.slice none 0 0]
  | .may _ => [.slice none 0 0]
  | .shr _ => [.slice none 0 0]

theorem rep_zero {lab : Lab} {w : World} : ∀ {t : Ty} {m : Nat} {r : Nat} {p : Path}, zeroOk t = true → rep lab w t m (zeroD t) (zeroC t) r p := by
  intro t
  induction t with
  | int k => intros; rfl
  | bool => intros; rfl
  | str => intros; rfl
  | raw => intro m r p _; exact ⟨rfl, rfl⟩
  | hole => intro m r p h; simp [zeroOk] at h
  | unit => intros; rfl
  | prod a b iha ihb =>
    intro m r p h
    simp only [zeroOk] at h
    split at h
    · rename_i ha
      exact ⟨zeroC a, zeroC b, rfl, rep_length (lab := lab) (w := w) (m := m) (r := r) (p := p) (iha ha), iha ha, ihb h⟩
    · simp at h
  | slc t ih => intro m r p _; exact ⟨none, 0, rfl, Nat.le_refl _, Nat.zero_le _, .inl ⟨rfl, rfl, rfl⟩⟩
  | ptr t ih => intro m r p h; simp [zeroOk] at h
  | opt t ih => intro m r p _; exact .inl ⟨rfl, rfl⟩
  | may t ih => intro m r p _; exact .inl ⟨_, rfl, rfl, rfl⟩
  | shr t ih => intro m r p _; exact ⟨none, 0, rfl, Nat.le_refl _, Nat.zero_le _, .inl ⟨rfl, rfl, rfl⟩⟩

def fpath : Nat → Path
  | 0 => [.l]
  | n + 1 => .r :: fpath n

def foff : Ty → Nat → Option Nat
  | .prod _ _, 0 => some 0
  | .prod a b, n + 1 => match foff b n with | some o => some (a.cells + o) | none => none
  | _, _ => none

def fty : Ty → Nat → Option Ty
  | .prod a _, 0 => some a
  | .prod _ b, n + 1 => fty b n
  | _, _ => none

/-- A type of the program is read so. -/
def TyOK (P : Program) (T : TypeId) (t : Ty) : Prop :=
  (∃ i, P.info? T = some i ∧ i.size = t.cells ∧ (zeroOk t = true → ∃ z, i.zero = some z ∧ z.cells.toList = zeroC t)) ∧
  ∃ d, P.underlying T = some d ∧ match t with
    | .int k => d = .int k
    | .bool => d = .bool
    | .str => d = .string
    | .prod a b => ∃ fs pl, d = .struct fs ∧ fs.toList.mapM (fun f => (P.info? f.type).map fun i => (f.offset, i.size)) = some pl ∧ ∀ f o tf, foff (.prod a b) f = some o → fty (.prod a b) f = some tf → pl[f]? = some (o, tf.cells) ∧ ∃ fd i, fs[f]? = some fd ∧ fd.offset = o ∧ P.info? fd.type = some i ∧ i.size = tf.cells ∧ 0 < tf.cells
    | .unit => d = .struct #[]
    | .slc e => ∃ E i z, d = .slice E ∧ P.info? E = some i ∧ i.size = e.cells ∧ 0 < e.cells ∧ 0 < i.bytes ∧ i.bytes ≤ 4096 ∧ i.zero = some z ∧ z.cells.size = e.cells ∧ (zeroOk e = true → z.cells.toList = zeroC e)
    | .ptr _ => ∃ E, d = .pointer E
    | .opt _ => ∃ E, d = .slice E
    | .may _ => ∃ E, d = .slice E
    | .shr _ => ∃ E, d = .slice E
    | .raw => (∀ fs, d ≠ .struct fs) ∧ (∀ n e, d ≠ .array n e)
    | .hole => False

theorem run_isAgg_ok {P : Program} {T : TypeId} {t : Ty} (h : TyOK P T t) (w : World) : (isAgg T).run P w = .ok t.agg w := by
  obtain ⟨_, d, hd, h⟩ := h
  cases t <;> simp only at h
  case int k => subst h; simp [isAgg, run_underlying hd, Ty.agg]
  case bool => subst h; simp [isAgg, run_underlying hd, Ty.agg]
  case str => subst h; simp [isAgg, run_underlying hd, Ty.agg]
  case unit => subst h; simp [isAgg, run_underlying hd, Ty.agg]
  case prod a b => obtain ⟨fs, pl, rfl, _⟩ := h; simp [isAgg, run_underlying hd, Ty.agg]
  case slc e => obtain ⟨E, i, z, rfl, _⟩ := h; simp [isAgg, run_underlying hd, Ty.agg]
  case ptr e => obtain ⟨E, rfl⟩ := h; simp [isAgg, run_underlying hd, Ty.agg]
  case opt e => obtain ⟨E, rfl⟩ := h; simp [isAgg, run_underlying hd, Ty.agg]
  case may e => obtain ⟨E, rfl⟩ := h; simp [isAgg, run_underlying hd, Ty.agg]
  case shr e => obtain ⟨E, rfl⟩ := h; simp [isAgg, run_underlying hd, Ty.agg]
  case raw =>
    obtain ⟨h1, h2⟩ := h
    simp only [isAgg, Sem.run_bind, run_underlying hd, Result.andThen_ok, Ty.agg]
    cases d <;> first | rfl | exact absurd rfl (h1 _) | exact absurd rfl (h2 _ _)

theorem run_sizeOf_ok {P : Program} {T : TypeId} {t : Ty} (h : TyOK P T t) (w : World) : (sizeOf T).run P w = .ok t.cells w := by
  obtain ⟨⟨i, hi, hs, _⟩, _⟩ := h
  simp [sizeOf, typeInfo, hi, hs]

theorem add_lit (g o n : Nat) : (⟨g, o, none⟩ : Addr).add n = ⟨g, o + n, none⟩ := by
  unfold Addr.add; split <;> simp_all

theorem cellsAt_getElem {cur : Array Value} {o n j : Nat} {v : Value} (h : (cellsAt cur o n)[j]? = some v) : cur[o + j]? = some v := by
  simp only [cellsAt, List.getElem?_take, List.getElem?_drop] at h
  split at h
  · simpa using h
  · simp at h

theorem run_loadVar_at {P : Program} {T : TypeId} {t : Ty} (h : TyOK P T t) {w : World} {g o : Nat} {cur : Array Value} {e : TypeId} {fz : Nat × Nat}
    (hg : w.heap[g]? = some (.cells cur e fz)) (hs : o + t.cells ≤ cur.size) : (loadVar T ⟨g, o, none⟩).run P w = .ok (mkV t (cellsAt cur o t.cells)) w := by
  have hcell : ∀ j v, (cellsAt cur o t.cells)[j]? = some v → w.cell? ((⟨g, o, none⟩ : Addr).add j) = some v := by
    intro j v hj
    rw [add_lit]
    simp [World.cell?, hg, cellsAt_getElem hj]
  have hlen := cellsAt_length hs
  unfold loadVar mkV
  simp only [Sem.run_bind, run_isAgg_ok h, Result.andThen_ok]
  cases ha : t.agg with
  | true =>
    have := run_loadCells_list (P := P) w ⟨g, o, none⟩ _ hcell
    rw [hlen] at this
    simp [run_sizeOf_ok h, this]
  | false =>
    have h1 := cells_of_not_agg ha
    rw [h1] at hlen hcell ⊢
    match hc : cellsAt cur o 1, hlen with
    | [v], _ =>
      have := hcell 0 v (by simp [hc])
      rw [add_lit] at this
      simp only [Nat.add_zero] at this
      simp [run_load, this]

structure DstOK (c : Ctx) (o : Oper) : Prop where
  lt : ∀ d, o.dst = some d → d < c.n
  fix : ∀ d, o.dst = some d → ∀ k u, (k, u) ∈ c.fix → k ≠ d

/-- The operation, from each state that is read so, ends in the next. -/
def Snd (P : Program) (c : Ctx) (l : Env) (o : Oper) (out : Out) : Prop :=
  ∀ a w lab, Rel c l a w lab → DstOK c o → ∀ Q, o.wp P a w (fun a' w' => ∃ lab', Rel c (after l o.dst out) a' w' lab') Q

/-- The same wherever the state reads alike at what the operation looks at. -/
def SR (P : Program) (c : Ctx) (l : Env) (o : Oper) (out : Out) : Prop :=
  ∀ l', (∀ k ∈ out.rd, look l' k = look l k) → Snd P c l' o out

theorem view_agree {l l' : Env} {o : Operand} {ov : OV} (h : view l o = some ov) (ha : ∀ k ∈ ov.rd, look l' k = look l k) : view l' o = some ov := by
  cases o with
  | const v => exact h
  | func f => exact h
  | global g => exact h
  | tmp k =>
    simp only [view] at h ⊢
    split at h
    · rename_i hk; obtain rfl := Option.some.inj h; rw [ha k (by simp [OV.rd]), hk]
    · rename_i hk
      split at h
      · rename_i hr; obtain rfl := Option.some.inj h; rw [ha k (by simp [OV.rd]), hk]; simp only []; rw [ha _ (by simp [OV.rd]), hr]
      · simp at h
    · rename_i hk
      split at h
      · rename_i hr; obtain rfl := Option.some.inj h; rw [ha k (by simp [OV.rd]), hk]; simp only []; rw [ha _ (by simp [OV.rd]), hr]
      · simp at h
    · rename_i hk; obtain rfl := Option.some.inj h; rw [ha k (by simp [OV.rd]), hk]
    · simp at h

theorem put_tmps_ne {a : Act} {d k : Nat} {v : Value} (h : k ≠ d) : (a.put (some d) v).tmps[k]? = a.tmps[k]? := by
  simp [Act.put, Array.getElem?_setIfInBounds_ne (Ne.symm h)]

theorem put_tmps_eq {a : Act} {d : Nat} {v : Value} (h : d < a.tmps.size) : (a.put (some d) v).tmps[d]? = some v := by
  simp [Act.put, h]

/-- A step's end: its slot holds the new value. -/
theorem fin_dead {c : Ctx} {l : Env} {a : Act} {w w' : World} {lab lab' : Lab} {d : Nat} {v : Value} (h : Rel c l a w lab) (hd : d < c.n) (hf : ∀ k u, (k, u) ∈ c.fix → k ≠ d)
    (hfr : Fr c.W0 c.lab0 w' lab') (hk : ∀ k, k ≠ d → k < 1000000 → Keeps lab lab' w w' k) : Rel c (purge d true l) (a.put (some d) v) w' lab' := by
  have := h.change (a' := a.put (some d) v) (w' := w') (lab' := lab') [d] (h.not_hidden hd) (by simpa [Act.put] using h.defers) (by simp [Act.put]) (fun k u hm => put_tmps_ne (hf k u hm)) (fun k hk => put_tmps_ne (by simpa using hk)) hfr (fun k hk1 hk2 => hk k (by simpa using hk1) hk2)
  simpa [purgeAll] using this

theorem fin {c : Ctx} {l : Env} {a : Act} {w w' : World} {lab lab' : Lab} {d : Nat} {v : Value} {ax : AX} (h : Rel c l a w lab) (hd : d < c.n) (hf : ∀ k u, (k, u) ∈ c.fix → k ≠ d)
    (hfr : Fr c.W0 c.lab0 w' lab') (hk : ∀ k, k ≠ d → k < 1000000 → Keeps lab lab' w w' k) (hv : holds ((d, ax) :: purge d true l) lab' w' (a.put (some d) v) d ax) :
    Rel c ((d, ax) :: purge d true l) (a.put (some d) v) w' lab' :=
  (fin_dead h hd hf hfr hk).add (fun _ hm => (mem_purge hm).2.1 rfl) hv fun _ _ hm => .inl (mem_purge hm).2.2

theorem fin_val {c : Ctx} {l : Env} {a : Act} {w w' : World} {lab lab' : Lab} {d : Nat} {v : Value} {t : Ty} {m : Nat} {x : den t} (h : Rel c l a w lab) (hd : d < c.n) (hf : ∀ k u, (k, u) ∈ c.fix → k ≠ d)
    (hfr : Fr c.W0 c.lab0 w' lab') (hk : ∀ k, k ≠ d → k < 1000000 → Keeps lab lab' w w' k) (hv : repV lab' w' t m x v d []) :
    Rel c ((d, .val t m x) :: purge d true l) (a.put (some d) v) w' lab' :=
  fin h hd hf hfr hk ⟨v, put_tmps_eq (by rw [h.size]; exact hd), hv⟩

/-- The end of an operation whose value is known and that leaves memory alone, in one line. -/
theorem snd_value {P : Program} {c : Ctx} {l : Env} {o : Oper} {out : Out} (h : ∀ a w lab, Rel c l a w lab → DstOK c o → ∃ v w' lab', (execOp a.eval o).run P w = .ok (.value v) w' ∧ Rel c (after l o.dst out) (a.put o.dst v) w' lab') : Snd P c l o out := by
  intro a w lab hR hd Q
  obtain ⟨v, w', lab', hr, hR'⟩ := h a w lab hR hd
  unfold Oper.wp
  rw [hr, Oper.upon_value]
  exact ⟨lab', hR'⟩

/-- A free value into the slot, nothing else turned. -/
theorem fin_free {c : Ctx} {l : Env} {a : Act} {w : World} {lab : Lab} {o : Oper} {v : Value} {t : Ty} {x : den t} {rd : List Nat} (h : Rel c l a w lab) (hd : DstOK c o) (hv : ∀ r p, repV lab w t 0 x v r p) :
    Rel c (after l o.dst ⟨rd, some (.val t 0 x), []⟩) (a.put o.dst v) w lab := by
  cases ho : o.dst with
  | none => simpa [after, applyUpd, Act.put] using h
  | some d => exact fin_val h (hd.lt d ho) (hd.fix d ho) h.fr (fun k _ _ => Keeps.refl lab w k) (hv d [])

theorem seen_free {c : Ctx} {l : Env} {a : Act} {w : World} {lab : Lab} {x : Operand} {k : Option Nat} {t : Ty} {m : Nat} {v : den t} (h : Rel c l a w lab) (hs : Seen l x (.val k t m v)) (hf : free t m = true) : ∀ r p, repV lab w t 0 v (a.eval x) r p := by
  cases k with
  | none => exact fun r p => hs.1 a lab w r p 0
  | some k =>
    obtain ⟨rfl, hm⟩ := hs
    obtain ⟨u, hu, hrep⟩ := h.vals _ _ hm
    rw [eval_tmp hu]
    exact repV_free hf hrep

/-- move, assign: a free value. -/
theorem r_copy {P : Program} {c : Ctx} {l : Env} {o : Oper} {x : Operand} {k : Option Nat} {t : Ty} {m : Nat} {v : den t} (ho : o.op = .move x ∨ o.op = .assign x) (hv : view l x = some (.val k t m v)) (hf : free t m = true) :
    SR P c l o ⟨(OV.val k t m v).rd, some (.val t 0 v), []⟩ := fun l' ha => by
  have hs := seen_of_view (view_agree hv ha)
  exact snd_value fun a w lab hR hd => ⟨a.eval x, w, lab, by rcases ho with ho | ho <;> simp [execOp, ho], fin_free hR hd (seen_free hR hs hf)⟩

theorem fin_alias {c : Ctx} {l : Env} {a : Act} {w : World} {lab : Lab} {o : Oper} {v : Value} {ax : AX} {rd : List Nat} (h : Rel c l a w lab) (hd : DstOK c o)
    (hv : ∀ d, o.dst = some d → ∀ l'', (∀ kv ∈ l'', kv.1 ≠ d → kv ∈ l) → (∀ t m x, (d, AX.val t m x) ∈ l'' → ax = .val t m x) → holds l'' lab w (a.put (some d) v) d ax) : Rel c (after l o.dst ⟨rd, some ax, []⟩) (a.put o.dst v) w lab := by
  cases ho : o.dst with
  | none => simpa [after, applyUpd, Act.put] using h
  | some d =>
    refine fin h (hd.lt d ho) (hd.fix d ho) h.fr (fun k _ _ => Keeps.refl lab w k) (hv d ho _ (fun kv hm hk => ?_) fun t m x hm => ?_)
    · rcases List.mem_cons.1 hm with rfl | hm
      · exact absurd rfl hk
      · exact purge_sub _ hm
    · rcases List.mem_cons.1 hm with he | hm
      · exact (Prod.mk.inj he).2.symm
      · exact absurd rfl (mem_purge hm).2.1

/-- A reference or a place in a slot: found where its root stands. (If its root is the slot itself, nothing is said.) -/
theorem holds_ref {c : Ctx} {l l'' : Env} {a : Act} {w : World} {lab : Lab} {d r : Nat} {p : Path} {t : Ty} {m : Nat} {x : den t} {t' : Ty} {us' : List Value} {A : Option Addr} {u : Value} (h : Rel c l a w lab) (hd : d < c.n)
    (hu : a.tmps[r]? = some u) (hl : (r, AX.val t m x) ∈ l) (hl'' : ∀ kv ∈ l'', kv.1 ≠ d → kv ∈ l) (hself : ∀ t m x, (d, AX.val t m x) ∈ l'' → AX.ref r p = .val t m x) (hn : nav w p t (cellsOf t u) none = some (t', us', A)) :
    holds l'' lab w (a.put (some d) (mkV t' us')) d (.ref r p) := by
  intro t1 m1 x1 hx1
  by_cases hr : r = d
  · subst hr; exact absurd (hself _ _ _ hx1) (by simp)
  · have := h.uniq _ _ _ hl (hl'' _ hx1 hr)
    injection this with e1 e2 e3
    subst e1
    exact ⟨u, t', us', A, by rw [put_tmps_ne hr]; exact hu, hn, put_tmps_eq (by rw [h.size]; exact hd)⟩

theorem holds_place {c : Ctx} {l l'' : Env} {a : Act} {w : World} {lab : Lab} {d r : Nat} {p : Path} {t : Ty} {m : Nat} {x : den t} {t' : Ty} {us' : List Value} {A : Addr} {u : Value} (h : Rel c l a w lab) (hd : d < c.n)
    (hu : a.tmps[r]? = some u) (hl : (r, AX.val t m x) ∈ l) (hl'' : ∀ kv ∈ l'', kv.1 ≠ d → kv ∈ l) (hself : ∀ t m x, (d, AX.val t m x) ∈ l'' → AX.place r p = .val t m x) (hn : nav w p t (cellsOf t u) none = some (t', us', some A)) :
    holds l'' lab w (a.put (some d) (.pointer (some A))) d (.place r p) := by
  intro t1 m1 x1 hx1
  by_cases hr : r = d
  · subst hr; exact absurd (hself _ _ _ hx1) (by simp)
  · have := h.uniq _ _ _ hl (hl'' _ hx1 hr)
    injection this with e1 e2 e3
    subst e1
    exact ⟨u, t', us', A, by rw [put_tmps_ne hr]; exact hu, hn, put_tmps_eq (by rw [h.size]; exact hd)⟩

/-- move: what a temporary owns is seen through another. -/
theorem r_alias {P : Program} {c : Ctx} {l : Env} {o : Oper} {k : Nat} {t : Ty} {m : Nat} {v : den t} (ho : o.op = .move (.tmp k)) (hv : view l (.tmp k) = some (.val (some k) t m v)) :
    SR P c l o ⟨[k], some (.ref k []), []⟩ := fun l' ha => by
  obtain ⟨_, hm⟩ := seen_of_view (view_agree hv ha)
  refine snd_value fun a w lab hR hd => ?_
  obtain ⟨u, hu, hrep⟩ := hR.vals _ _ hm
  refine ⟨u, w, lab, by simp [execOp, ho, eval_tmp hu], fin_alias hR hd fun d hdst l'' h1 h2 => ?_⟩
  have := holds_ref (p := []) hR (hd.lt d hdst) hu hm h1 h2 rfl
  rwa [mkV_cellsOf hrep.shape] at this

/-- move (of a reference). -/
theorem r_ref {P : Program} {c : Ctx} {l : Env} {o : Oper} {k r : Nat} {p : Path} {t : Ty} {m : Nat} {v : den t} (ho : o.op = .move (.tmp k) ∨ o.op = .assign (.tmp k)) (hv : view l (.tmp k) = some (.ref k r p t m v)) :
    SR P c l o ⟨[k, r], some (.ref r p), []⟩ := fun l' ha => by
  obtain ⟨_, hm, hr⟩ := seen_of_view (view_agree hv ha)
  refine snd_value fun a w lab hR hd => ?_
  obtain ⟨u, t', us', A, h1, h2, h3⟩ := hR.vals _ _ hm _ _ _ hr
  exact ⟨mkV t' us', w, lab, by rcases ho with ho | ho <;> simp [execOp, ho, eval_tmp h3], fin_alias hR hd fun d hdst l'' h4 h5 => holds_ref hR (hd.lt d hdst) h1 hr h4 h5 h2⟩

/-- Which pointer an operand is, by its root and path. -/
structure Tgt where
  r : Nat
  p : Path
  t : Ty
  m : Nat
  x : den t

def target : OV → Option Tgt
  | .place _ r p t m x => some ⟨r, p, t, m, x⟩
  | .val (some k) (.ptr t) (m + 1) x => some ⟨k, [.d], .ptr t, m + 1, x⟩
  | .ref _ r p t m x => match sub p t x with
    | some ⟨.ptr _, _⟩ => some ⟨r, p ++ [.d], t, m, x⟩
    | _ => none
  | _ => none

theorem nav_append {w : World} : ∀ {p q : Path} {t : Ty} {us : List Value} {A : Option Addr} {t' : Ty} {us' : List Value} {A' : Option Addr},
    nav w p t us A = some (t', us', A') → nav w (p ++ q) t us A = nav w q t' us' A' := by
  intro p
  induction p with
  | nil => intro q t us A t' us' A' h; simp only [nav, Option.some.injEq, Prod.mk.injEq] at h; obtain ⟨rfl, rfl, rfl⟩ := h; rfl
  | cons s p ih =>
    intro q t us A t' us' A' h
    cases s with
    | l =>
      cases t with
      | prod a b => simp only [nav, List.cons_append] at h ⊢; exact ih h
      | _ => simp [nav] at h
    | r =>
      cases t with
      | prod a b => simp only [nav, List.cons_append] at h ⊢; exact ih h
      | _ => simp [nav] at h
    | e i =>
      cases t with
      | slc t =>
        match us, h with
        | [.slice (some A1) len cap], h =>
          simp only [nav, List.cons_append] at h ⊢
          split at h
          · rename_i hi
            rw [if_pos hi]
            split at h
            · exact ih h
            · simp at h
          · simp at h
      | _ => simp [nav] at h
    | d =>
      cases t with
      | ptr t =>
        match us, h with
        | [.pointer (some A1)], h =>
          simp only [nav, List.cons_append] at h ⊢
          split at h
          · exact ih h
          · simp at h
      | _ => simp [nav] at h

theorem sub_append : ∀ {p q : Path} {t : Ty} {x : den t} {t' : Ty} {x' : den t'}, sub p t x = some ⟨t', x'⟩ → sub (p ++ q) t x = sub q t' x' := by
  intro p
  induction p with
  | nil =>
    intro q t x t' x' h
    simp only [sub, Option.some.injEq, Sigma.mk.injEq] at h
    obtain ⟨rfl, h⟩ := h
    have h := eq_of_heq h
    subst h
    rfl
  | cons s p ih =>
    intro q t x t' x' h
    cases s <;> cases t <;> simp only [sub, List.cons_append] at h ⊢ <;> first | exact ih h | exact absurd h (by simp) | skip
    split at h
    · exact ih h
    · simp at h

/-- Where the pointer points: the cells of the part, in one block. -/
structure Hit (w : World) (lab : Lab) (a : Act) (l : Env) (g : Tgt) (x : Operand) (A : Addr) (t' : Ty) (us' : List Value) (u : Value) : Prop where
  mem : (g.r, AX.val g.t g.m g.x) ∈ l
  root : a.tmps[g.r]? = some u
  rep : repV lab w g.t g.m g.x u g.r []
  nav : nav w g.p g.t (cellsOf g.t u) none = some (t', us', some A)
  ptr : a.eval x = .pointer (some A)

theorem target_hit {c : Ctx} {l : Env} {a : Act} {w : World} {lab : Lab} {x : Operand} {ov : OV} {g : Tgt} (h : Rel c l a w lab) (hs : Seen l x ov) (ht : target ov = some g) : ∃ A t' us' u, Hit w lab a l g x A t' us' u := by
  cases ov with
  | place k r p t m v =>
    simp only [target, Option.some.injEq] at ht
    subst ht
    obtain ⟨rfl, hk, hr⟩ := hs
    obtain ⟨u, t', us', A, h1, h2, h3⟩ := h.vals _ _ hk _ _ _ hr
    obtain ⟨u', h1', hrep⟩ := h.vals _ _ hr
    rw [h1] at h1'
    obtain rfl := Option.some.inj h1'
    exact ⟨A, t', us', u, hr, h1, hrep, h2, eval_tmp h3⟩
  | val k t m v =>
    match k, t, m, v, ht with
    | some k, .ptr t, m + 1, v, ht =>
      simp only [target, Option.some.injEq] at ht
      subst ht
      obtain ⟨rfl, hk⟩ := hs
      obtain ⟨u, hu, hrep⟩ := h.vals _ _ hk
      have hrep' := hrep.rep
      simp only [rep, cellsOf, Ty.agg] at hrep'
      obtain ⟨g, off, cur, e, fz, he, hg, _⟩ := hrep'
      simp only [List.cons.injEq, and_true] at he
      exact ⟨⟨g, off, none⟩, t, cellsAt cur off t.cells, u, hk, hu, hrep, by simp [nav, cellsOf, Ty.agg, he, hg], by rw [eval_tmp hu, he]⟩
  | ref k r p t m v =>
    simp only [target] at ht
    split at ht
    case h_2 => simp at ht
    rename_i t1 x1 hsub
    simp only [Option.some.injEq] at ht
    subst ht
    obtain ⟨rfl, hk, hr⟩ := hs
    obtain ⟨u, t', us', A, h1, h2, h3⟩ := h.vals _ _ hk _ _ _ hr
    obtain ⟨u', h1', hrep⟩ := h.vals _ _ hr
    rw [h1] at h1'
    obtain rfl := Option.some.inj h1'
    obtain ⟨us1, A1, hn, hrep1⟩ := rep_nav (A := none) hrep.rep hsub
    rw [h2] at hn
    simp only [Option.some.injEq, Prod.mk.injEq] at hn
    obtain ⟨rfl, rfl, rfl⟩ := hn
    simp only [Go.Abs.rep] at hrep1
    obtain ⟨g, off, cur, e, fz, rfl, hg, _⟩ := hrep1
    exact ⟨⟨g, off, none⟩, t1, cellsAt cur off t1.cells, u, hr, h1, hrep, by rw [nav_append h2]; simp [nav, hg], by rw [eval_tmp h3]; simp [mkV, Ty.agg]⟩
  | tup k vs => simp [target] at ht

end Go.Abs
