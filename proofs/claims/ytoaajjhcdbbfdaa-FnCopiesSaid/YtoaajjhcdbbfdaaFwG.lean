/- The framework: walks of code that keep plain values. -/
import Derived.Test.YtoaajjhcdbbfdaaFwF
set_option linter.unusedSimpArgs false
set_option linter.unnecessarySimpa false
set_option linter.unusedVariables false
namespace Go.Abs

def InMem (w : World) (t : Ty) (us : List Value) : Option Addr → Prop
  | none => True
  | some A => A.spot = none ∧ ∃ cur e fz, w.heap[A.block]? = some (.cells cur e fz) ∧ A.off + t.cells ≤ cur.size ∧ us = cellsAt cur A.off t.cells

theorem cellsAt_take {cur : Array Value} {o n k : Nat} (h : k ≤ n) : (cellsAt cur o n).take k = cellsAt cur o k := by
  simp [cellsAt, List.take_take, Nat.min_eq_left h]

theorem cellsAt_drop {cur : Array Value} {o n k : Nat} : (cellsAt cur o (k + n)).drop k = cellsAt cur (o + k) n := by
  simp [cellsAt, List.drop_take, List.drop_drop]

theorem nav_inMem {lab : Lab} {w : World} : ∀ {q : Path} {t : Ty} {m : Nat} {x : den t} {us : List Value} {r : Nat} {p : Path} {A : Option Addr} {t' : Ty} {us' : List Value} {A' : Option Addr},
    rep lab w t m x us r p → InMem w t us A → nav w q t us A = some (t', us', A') → InMem w t' us' A' := by
  intro q
  induction q with
  | nil => intro t m x us r p A t' us' A' _ hi h; simp only [nav, Option.some.injEq, Prod.mk.injEq] at h; obtain ⟨rfl, rfl, rfl⟩ := h; exact hi
  | cons s q ih =>
    intro t m x us r p A t' us' A' h hi hn
    cases s with
    | l =>
      cases t with
      | prod a b =>
        simp only [nav] at hn
        simp only [rep] at h
        obtain ⟨u1, u2, rfl, h1, h2, h3⟩ := h
        rw [← h1, List.take_left] at hn
        refine ih h2 ?_ hn
        cases A with
        | none => trivial
        | some A =>
          obtain ⟨hs, cur, e, fz, hg, hsz, he⟩ := hi
          simp only [Ty.cells] at hsz he
          refine ⟨hs, cur, e, fz, hg, by omega, ?_⟩
          rw [← cellsAt_take (n := a.cells + b.cells) (by omega), ← he, ← h1, List.take_left]
      | _ => simp [nav] at hn
    | r =>
      cases t with
      | prod a b =>
        simp only [nav] at hn
        simp only [rep] at h
        obtain ⟨u1, u2, rfl, h1, h2, h3⟩ := h
        rw [← h1, List.drop_left] at hn
        refine ih h3 ?_ hn
        cases A with
        | none => trivial
        | some A =>
          obtain ⟨hs, cur, e, fz, hg, hsz, he⟩ := hi
          simp only [Ty.cells] at hsz he
          refine ⟨rfl, cur, e, fz, hg, by simp only []; omega, ?_⟩
          simp only []
          rw [h1, ← cellsAt_drop, ← he, ← h1, List.drop_left]
      | _ => simp [nav] at hn
    | e i =>
      cases t with
      | slc t =>
        simp only [rep] at h
        obtain ⟨base, cap, rfl, hc, hm, h⟩ := h
        rcases h with ⟨rfl, rfl, rfl⟩ | ⟨g, off, cur, e, fz, rfl, hg, hsz, hown, hr⟩
        · simp [nav] at hn
        · simp only [nav, hg] at hn
          split at hn
          · rename_i hlt
            refine ih (A := some ⟨g, off + i * t.cells, none⟩) (hr i hlt) ⟨rfl, cur, e, fz, hg, ?_, rfl⟩ hn
            have h1 : i * t.cells + t.cells ≤ x.length * t.cells := by rw [← Nat.succ_mul]; exact Nat.mul_le_mul_right _ hlt
            simp only []
            omega
          · simp at hn
      | _ => simp [nav] at hn
    | d =>
      cases t with
      | ptr t =>
        simp only [rep] at h
        obtain ⟨g, off, cur, e, fz, rfl, hg, hsz, hown, hr⟩ := h
        simp only [nav, hg] at hn
        exact ih (A := some ⟨g, off, none⟩) hr ⟨rfl, cur, e, fz, hg, hsz, rfl⟩ hn
      | _ => simp [nav] at hn

theorem run_loadAt_mem {P : Program} {T : TypeId} {t : Ty} (h : TyOK P T t) {w : World} {A : Addr} {us : List Value} (hm : InMem w t us (some A)) :
    (Instr.loadAt T (.pointer (some A))).run P w = .ok (mkV t us) w := by
  obtain ⟨hs, cur, e, fz, hg, hsz, rfl⟩ := hm
  obtain ⟨g, off, spot⟩ := A
  simp only at hs hg hsz ⊢
  subst hs
  simp only [Instr.loadAt, Instr.sureAddr, Sem.run_bind, Sem.run_pure, Result.andThen_ok, run_loadVar_at h hg hsz]

/-- The datum a pointer leads to. -/
theorem hit_sub {lab : Lab} {w : World} {a : Act} {l : Env} {g : Tgt} {x : Operand} {A : Addr} {t1 : Ty} {us1 : List Value} {u : Value} {t' : Ty} {x' : den t'}
    (h : Hit w lab a l g x A t1 us1 u) (hs : sub g.p g.t g.x = some ⟨t', x'⟩) : t1 = t' ∧ rep lab w t' (g.m - dep g.p) x' us1 g.r g.p ∧ InMem w t' us1 (some A) := by
  obtain ⟨us2, A2, hn, hr⟩ := rep_nav (A := none) h.rep.rep hs
  have := h.nav
  rw [hn] at this
  simp only [Option.some.injEq, Prod.mk.injEq] at this
  obtain ⟨rfl, rfl, rfl⟩ := this
  exact ⟨rfl, by simpa using hr, nav_inMem (A := none) h.rep.rep trivial hn⟩

theorem r_load {P : Program} {c : Ctx} {l : Env} {o : Oper} {T : TypeId} {x : Operand} {ov : OV} {g : Tgt} {t' : Ty} {x' : den t'} (ho : o.op = .load T x) (hv : view l x = some ov) (hg : target ov = some g)
    (hs : sub g.p g.t g.x = some ⟨t', x'⟩) (hT : TyOK P T t') (hf : free t' (g.m - dep g.p) = true) : SR P c l o ⟨ov.rd, some (.val t' 0 x'), []⟩ := fun l' ha => by
  have hseen := seen_of_view (view_agree hv ha)
  refine snd_value fun a w lab hR hd => ?_
  obtain ⟨A, t1, us1, u, hh⟩ := target_hit hR hseen hg
  obtain ⟨rfl, hr, hm⟩ := hit_sub hh hs
  exact ⟨_, w, lab, by simp only [execOp, ho, hh.ptr, Sem.run_bind, run_loadAt_mem hT hm]; rfl, fin_free hR hd fun r p => repV_free hf (repV_mk hr) r p⟩

theorem r_load_ref {P : Program} {c : Ctx} {l : Env} {o : Oper} {T : TypeId} {x : Operand} {ov : OV} {g : Tgt} {t' : Ty} {x' : den t'} (ho : o.op = .load T x) (hv : view l x = some ov) (hg : target ov = some g)
    (hs : sub g.p g.t g.x = some ⟨t', x'⟩) (hT : TyOK P T t') : SR P c l o ⟨ov.rd, some (.ref g.r g.p), []⟩ := fun l' ha => by
  have hseen := seen_of_view (view_agree hv ha)
  refine snd_value fun a w lab hR hd => ?_
  obtain ⟨A, t1, us1, u, hh⟩ := target_hit hR hseen hg
  obtain ⟨rfl, hr, hm⟩ := hit_sub hh hs
  exact ⟨_, w, lab, by simp only [execOp, ho, hh.ptr, Sem.run_bind, run_loadAt_mem hT hm]; rfl, fin_alias hR hd fun d hdst l'' h4 h5 => holds_ref hR (hd.lt d hdst) hh.root hh.mem h4 h5 hh.nav⟩

theorem shared_ptr {lab : Lab} {w : World} {t : Ty} {x : den t} {u : Value} {r : Nat} {p : Path} (h : repV lab w (.ptr t) 0 x u r p) :
    ∃ A us, u = .pointer (some A) ∧ InMem w t us (some A) ∧ rep lab w t 0 x us r (p ++ [.d]) ∧ lab A.block = none := by
  have h' := h.rep
  simp only [rep, cellsOf, Ty.agg] at h'
  obtain ⟨g, off, cur, e, fz, he, hg, hsz, ho, hr⟩ := h'
  simp only [List.cons.injEq, and_true] at he
  refine ⟨⟨g, off, none⟩, _, he, ⟨rfl, cur, e, fz, hg, hsz, rfl⟩, hr, ?_⟩
  rcases ho with ⟨_, ho⟩ | ⟨h0, _⟩
  · exact ho
  · omega

theorem r_load_shared {P : Program} {c : Ctx} {l : Env} {o : Oper} {T : TypeId} {x : Operand} {k : Option Nat} {t : Ty} {v : den t} (ho : o.op = .load T x) (hv : view l x = some (.val k (.ptr t) 0 v)) (hT : TyOK P T t) :
    SR P c l o ⟨(OV.val k (.ptr t) 0 v).rd, some (.val t 0 v), []⟩ := fun l' ha => by
  have hs := seen_of_view (view_agree hv ha)
  refine snd_value fun a w lab hR hd => ?_
  obtain ⟨A, us, hA, hm, hr, _⟩ := shared_ptr (seen_free hR hs rfl 0 [])
  exact ⟨_, w, lab, by simp only [execOp, ho, hA, Sem.run_bind, run_loadAt_mem hT hm]; rfl, fin_free hR hd fun r p => repV_free rfl (repV_mk hr) r p⟩

theorem nav_fpath {w : World} : ∀ {f : Nat} {t : Ty} {us : List Value} {A : Addr} {o : Nat} {tf : Ty}, A.spot = none → foff t f = some o → fty t f = some tf →
    ∃ us', nav w (fpath f) t us (some A) = some (tf, us', some ⟨A.block, A.off + o, none⟩) := by
  intro f
  induction f with
  | zero =>
    intro t us A o tf hsp ho ht
    cases t <;> simp only [foff, fty, Option.some.injEq] at ho ht <;> try exact absurd ho (by simp)
    subst ho; subst ht
    obtain ⟨g, off, sp⟩ := A
    simp only at hsp; subst hsp
    exact ⟨_, rfl⟩
  | succ f ih =>
    intro t us A o tf hsp ho ht
    cases t <;> simp only [foff, fty] at ho ht <;> try exact absurd ho (by simp)
    rename_i a b
    split at ho
    · rename_i o' ho'
      simp only [Option.some.injEq] at ho
      obtain ⟨us', h⟩ := ih (us := us.drop a.cells) (A := ⟨A.block, A.off + a.cells, none⟩) rfl ho' ht
      refine ⟨us', ?_⟩
      simp only [fpath, nav, Option.map]
      rw [h, ← ho]
      simp [Nat.add_assoc]
    · simp at ho

theorem run_fieldAt_ok {P : Program} {T : TypeId} {t : Ty} (h : TyOK P T t) {f o : Nat} {tf : Ty} (ho : foff t f = some o) (ht : fty t f = some tf) (g off : Nat) (w : World) :
    (Instr.fieldAt T (.pointer (some ⟨g, off, none⟩)) f).run P w = .ok (.pointer (some ⟨g, off + o, none⟩)) w := by
  obtain ⟨_, d, hd, h⟩ := h
  cases t with
  | prod a b =>
    simp only at h
    obtain ⟨fs, pl, rfl, _, h⟩ := h
    obtain ⟨_, fd, i, h1, h2, h3, h4, h5⟩ := h f o tf ho ht
    have hne : ¬ i.size = 0 := by omega
    simp [Instr.fieldAt, run_underlying hd, h1, Instr.sureAddr, fieldPlace, sizeOf, typeInfo, h3, hne, h2, add_lit]
  | _ => simp [foff] at ho

theorem r_field {P : Program} {c : Ctx} {l : Env} {o : Oper} {T : TypeId} {x : Operand} {f : Nat} {ov : OV} {g : Tgt} {t' : Ty} {x' : den t'} {n : Nat} {tf : Ty} (ho : o.op = .fieldAddr T x f) (hv : view l x = some ov) (hg : target ov = some g)
    (hs : sub g.p g.t g.x = some ⟨t', x'⟩) (hT : TyOK P T t') (hn : foff t' f = some n) (ht : fty t' f = some tf) : SR P c l o ⟨ov.rd, some (.place g.r (g.p ++ fpath f)), []⟩ := fun l' ha => by
  have hseen := seen_of_view (view_agree hv ha)
  refine snd_value fun a w lab hR hd => ?_
  obtain ⟨A, t1, us1, u, hh⟩ := target_hit hR hseen hg
  obtain ⟨rfl, hr, hm⟩ := hit_sub hh hs
  obtain ⟨us2, hn2⟩ := nav_fpath (w := w) (us := us1) hm.1 hn ht
  have hnav := nav_append (q := fpath f) hh.nav
  rw [hn2] at hnav
  obtain ⟨gb, off, sp⟩ := A
  have hsp := hm.1
  simp only at hsp; subst hsp
  exact ⟨_, w, lab, by simp only [execOp, ho, hh.ptr, Sem.run_bind, run_fieldAt_ok hT hn ht]; rfl, fin_alias hR hd fun d hdst l'' h4 h5 => holds_place hR (hd.lt d hdst) hh.root hh.mem h4 h5 hnav⟩

theorem sub_fpath : ∀ {f : Nat} {t tf : Ty} {x : den t}, fty t f = some tf → ∃ y : den tf, sub (fpath f) t x = some ⟨tf, y⟩ := by
  intro f
  induction f with
  | zero =>
    intro t tf x h
    cases t with
    | prod a b => simp only [fty, Option.some.injEq] at h; subst h; exact ⟨x.1, rfl⟩
    | _ => simp [fty] at h
  | succ f ih =>
    intro t tf x h
    cases t with
    | prod a b => exact ih (x := x.2) h
    | _ => simp [fty] at h

theorem r_field_shared {P : Program} {c : Ctx} {l : Env} {o : Oper} {T : TypeId} {x : Operand} {f : Nat} {k : Option Nat} {t : Ty} {v : den t} {n : Nat} {tf : Ty} {y : den tf} (ho : o.op = .fieldAddr T x f)
    (hv : view l x = some (.val k (.ptr t) 0 v)) (hT : TyOK P T t) (hn : foff t f = some n) (ht : fty t f = some tf) (hy : sub (fpath f) t v = some ⟨tf, y⟩) :
    SR P c l o ⟨(OV.val k (.ptr t) 0 v).rd, some (.val (.ptr tf) 0 y), []⟩ := fun l' ha => by
  have hs := seen_of_view (view_agree hv ha)
  refine snd_value fun a w lab hR hd => ?_
  obtain ⟨A, us, hA, hm, hr, hl⟩ := shared_ptr (seen_free hR hs rfl 0 [])
  obtain ⟨us2, hn2⟩ := nav_fpath (w := w) (us := us) hm.1 hn ht
  obtain ⟨us3, A3, hn3, hr3⟩ := rep_nav (A := some A) hr hy
  rw [hn2] at hn3
  simp only [Option.some.injEq, Prod.mk.injEq, true_and] at hn3
  obtain ⟨rfl, rfl⟩ := hn3
  have hm2 := nav_inMem hr hm hn2
  obtain ⟨gb, off, sp⟩ := A
  have hsp := hm.1
  simp only at hsp; subst hsp
  obtain ⟨_, cur, e, fz, hg, hsz, he⟩ := hm2
  refine ⟨_, w, lab, by simp only [execOp, ho, hA, Sem.run_bind, run_fieldAt_ok hT hn ht]; rfl, fin_free hR hd fun r p => repV_lone rfl ?_⟩
  simp only [rep]
  refine ⟨gb, off + n, cur, e, fz, rfl, hg, hsz, .inl ⟨trivial, hl⟩, ?_⟩
  rw [← he]
  simp only [Nat.zero_sub] at hr3 ⊢
  exact rep_shared hr3

theorem slc_elem {P : Program} {T : TypeId} {e : Ty} (h : TyOK P T (.slc e)) : ∃ E i, P.underlying T = some (.slice E) ∧ P.info? E = some i ∧ i.size = e.cells := by
  obtain ⟨_, d, hd, h⟩ := h
  simp only at h
  obtain ⟨E, i, z, rfl, h1, h2, _⟩ := h
  exact ⟨E, i, hd, h1, h2⟩

theorem run_indexAt_ok {P : Program} {T : TypeId} {e : Ty} (h : TyOK P T (.slc e)) {g off len cap : Nat} {k : IntKind} {n : Int} (h0 : 0 ≤ n) (hn : n.toNat < len) (w : World) :
    (Instr.indexAt T (.slice (some ⟨g, off, none⟩) len cap) (.int k n)).run P w = .ok (.pointer (some ⟨g, off + n.toNat * e.cells, none⟩)) w := by
  obtain ⟨E, i, hd, h1, h2⟩ := slc_elem h
  have hlt : n < (len : Int) := by omega
  simp [Instr.indexAt, asIntOf, run_underlying hd, h0, hlt, sizeOf, typeInfo, h1, h2, add_lit]

theorem seen_int {c : Ctx} {l : Env} {a : Act} {w : World} {lab : Lab} {x : Operand} {k : Option Nat} {ik : IntKind} {m : Nat} {n : Int} (h : Rel c l a w lab) (hs : Seen l x (.val k (.int ik) m n)) : a.eval x = .int ik n := by
  have := (seen_free h hs (by cases m <;> rfl) 0 []).rep
  simpa [rep, cellsOf, Ty.agg] using this

theorem seen_bool {c : Ctx} {l : Env} {a : Act} {w : World} {lab : Lab} {x : Operand} {k : Option Nat} {m : Nat} {b : Bool} (h : Rel c l a w lab) (hs : Seen l x (.val k .bool m b)) : a.eval x = .bool b := by
  have := (seen_free h hs (by cases m <;> rfl) 0 []).rep
  simpa [rep, cellsOf, Ty.agg] using this

theorem seen_str {c : Ctx} {l : Env} {a : Act} {w : World} {lab : Lab} {x : Operand} {k : Option Nat} {m : Nat} {s : List UInt8} (h : Rel c l a w lab) (hs : Seen l x (.val k .str m s)) : a.eval x = .string ⟨s.toArray⟩ := by
  have := (seen_free h hs (by cases m <;> rfl) 0 []).rep
  simpa [rep, cellsOf, Ty.agg] using this

theorem agree_left {l l' : Env} {r1 r2 : List Nat} (h : ∀ k ∈ r1 ++ r2, look l' k = look l k) : ∀ k ∈ r1, look l' k = look l k := fun k hk => h k (List.mem_append_left _ hk)
theorem agree_right {l l' : Env} {r1 r2 : List Nat} (h : ∀ k ∈ r1 ++ r2, look l' k = look l k) : ∀ k ∈ r2, look l' k = look l k := fun k hk => h k (List.mem_append_right _ hk)

/-- An element of a shared slice. -/
theorem r_index_shared {P : Program} {c : Ctx} {l : Env} {o : Oper} {T : TypeId} {x i : Operand} {k ki : Option Nat} {ik : IntKind} {mi : Nat} {n : Int} {e : Ty} {xs : List (den e)} {y : den e} (ho : o.op = .indexAddr T x i)
    (hv : view l x = some (.val k (.slc e) 0 xs)) (hi : view l i = some (.val ki (.int ik) mi n)) (hT : TyOK P T (.slc e)) (h0 : 0 ≤ n) (hy : xs[n.toNat]? = some y) :
    SR P c l o ⟨(OV.val k (.slc e) 0 xs).rd ++ (OV.val ki (.int ik) mi n).rd, some (.val (.ptr e) 0 y), []⟩ := fun l' ha => by
  have hs := seen_of_view (view_agree hv (agree_left ha))
  have hsi := seen_of_view (view_agree hi (agree_right ha))
  refine snd_value fun a w lab hR hd => ?_
  obtain ⟨hlt, rfl⟩ := List.getElem?_eq_some_iff.1 hy
  have hr := (seen_free hR hs rfl 0 []).rep
  simp only [rep, cellsOf, Ty.agg] at hr
  obtain ⟨base, cap, he, hc, hmx, hr⟩ := hr
  simp only [List.cons.injEq, and_true] at he
  rcases hr with ⟨_, hnil, _⟩ | ⟨g, off, cur, ee, fz, rfl, hg, hsz, hown, hel⟩
  · subst hnil; simp at hlt
  have hl : lab g = none := by
    rcases hown with ⟨_, ho⟩ | ⟨h0, _⟩
    · exact ho
    · omega
  refine ⟨_, w, lab, by simp only [execOp, ho, he, seen_int hR hsi, Sem.run_bind, run_indexAt_ok hT h0 hlt]; rfl, fin_free hR hd fun r p => repV_lone rfl ?_⟩
  simp only [rep]
  have h1 : n.toNat * e.cells + e.cells ≤ xs.length * e.cells := by rw [← Nat.succ_mul]; exact Nat.mul_le_mul_right _ hlt
  exact ⟨g, off + n.toNat * e.cells, cur, ee, fz, rfl, hg, by omega, .inl ⟨trivial, hl⟩, rep_shared (hel n.toNat hlt)⟩

/-- A slice that is owned, by its root and path. -/
def owner : OV → Option Tgt
  | .val (some k) t m x => some ⟨k, [], t, m, x⟩
  | .ref _ r p t m x => some ⟨r, p, t, m, x⟩
  | _ => none

structure Own (w : World) (lab : Lab) (a : Act) (l : Env) (g : Tgt) (x : Operand) (t' : Ty) (us' : List Value) (A : Option Addr) (u : Value) : Prop where
  mem : (g.r, AX.val g.t g.m g.x) ∈ l
  root : a.tmps[g.r]? = some u
  rep : repV lab w g.t g.m g.x u g.r []
  nav : nav w g.p g.t (cellsOf g.t u) none = some (t', us', A)
  val : a.eval x = mkV t' us'

theorem owner_own {c : Ctx} {l : Env} {a : Act} {w : World} {lab : Lab} {x : Operand} {ov : OV} {g : Tgt} (h : Rel c l a w lab) (hs : Seen l x ov) (ht : owner ov = some g) : ∃ t' us' A u, Own w lab a l g x t' us' A u := by
  cases ov with
  | val k t m v =>
    cases k with
    | none => simp [owner] at ht
    | some k =>
      simp only [owner, Option.some.injEq] at ht
      subst ht
      obtain ⟨rfl, hk⟩ := hs
      obtain ⟨u, hu, hrep⟩ := h.vals _ _ hk
      exact ⟨t, cellsOf t u, none, u, hk, hu, hrep, rfl, by rw [eval_tmp hu, mkV_cellsOf hrep.shape]⟩
  | ref k r p t m v =>
    simp only [owner, Option.some.injEq] at ht
    subst ht
    obtain ⟨rfl, hk, hr⟩ := hs
    obtain ⟨u, t', us', A, h1, h2, h3⟩ := h.vals _ _ hk _ _ _ hr
    obtain ⟨u', h1', hrep⟩ := h.vals _ _ hr
    rw [h1] at h1'
    obtain rfl := Option.some.inj h1'
    exact ⟨t', us', A, u, hr, h1, hrep, h2, eval_tmp h3⟩
  | place k r p t m v => simp [owner] at ht
  | tup k vs => simp [owner] at ht

theorem own_sub {lab : Lab} {w : World} {a : Act} {l : Env} {g : Tgt} {x : Operand} {A : Option Addr} {t1 : Ty} {us1 : List Value} {u : Value} {t' : Ty} {x' : den t'}
    (h : Own w lab a l g x t1 us1 A u) (hs : sub g.p g.t g.x = some ⟨t', x'⟩) : t1 = t' ∧ rep lab w t' (g.m - dep g.p) x' us1 g.r g.p := by
  obtain ⟨us2, A2, hn, hr⟩ := rep_nav (A := none) h.rep.rep hs
  have := h.nav
  rw [hn] at this
  simp only [Option.some.injEq, Prod.mk.injEq] at this
  obtain ⟨rfl, rfl, rfl⟩ := this
  exact ⟨rfl, by simpa using hr⟩

/-- An element of an owned slice: a place. -/
theorem r_index_own {P : Program} {c : Ctx} {l : Env} {o : Oper} {T : TypeId} {x i : Operand} {ov : OV} {g : Tgt} {ki : Option Nat} {ik : IntKind} {mi : Nat} {n : Int} {e : Ty} {xs : List (den e)} (ho : o.op = .indexAddr T x i)
    (hv : view l x = some ov) (hg : owner ov = some g) (hs : sub g.p g.t g.x = some ⟨.slc e, xs⟩) (hi : view l i = some (.val ki (.int ik) mi n)) (hT : TyOK P T (.slc e)) (h0 : 0 ≤ n) (hlt : n.toNat < xs.length) :
    SR P c l o ⟨ov.rd ++ (OV.val ki (.int ik) mi n).rd, some (.place g.r (g.p ++ [.e n.toNat])), []⟩ := fun l' ha => by
  have hseen := seen_of_view (view_agree hv (agree_left ha))
  have hsi := seen_of_view (view_agree hi (agree_right ha))
  refine snd_value fun a w lab hR hd => ?_
  obtain ⟨t1, us1, A, u, hh⟩ := owner_own hR hseen hg
  obtain ⟨rfl, hr⟩ := own_sub hh hs
  simp only [rep] at hr
  obtain ⟨base, cap, rfl, hc, hmx, hr⟩ := hr
  rcases hr with ⟨_, hnil, _⟩ | ⟨gb, off, cur, ee, fz, rfl, hgb, hsz, hown, hel⟩
  · subst hnil; simp at hlt
  have hnav := nav_append (q := [.e n.toNat]) hh.nav
  simp only [nav, hgb, hlt, if_true] at hnav
  exact ⟨_, w, lab, by simp only [execOp, ho, hh.val, mkV, Ty.agg, List.headD_cons, seen_int hR hsi, Sem.run_bind, run_indexAt_ok hT h0 hlt]; rfl,
    fin_alias hR hd fun d hdst l'' h4 h5 => holds_place hR (hd.lt d hdst) hh.root hh.mem h4 h5 hnav⟩

end Go.Abs
