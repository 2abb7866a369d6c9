/- The framework: walks of code that keep plain values. -/
import Derived.Test.YtoaajjhcdbbfdaaFwO
set_option linter.unusedSimpArgs false
set_option linter.unnecessarySimpa false
set_option linter.unusedVariables false
namespace Go.Abs

def HoldArgs (lab : Lab) (w : World) (vs : List V) (us : List Value) : Prop :=
  us.length = vs.length ∧ ∀ i (h : i < vs.length) (h' : i < us.length), repV lab w vs[i].t vs[i].m vs[i].x us[i] i []

def resRoot : Nat := 1000000

structure HoldRes (lab : Lab) (w : World) (ys : List V) (vs : List Value) : Prop where
  len : vs.length = ys.length
  rep : ∀ k (h : k < ys.length) (h' : k < vs.length), repV lab w ys[k].t ys[k].m ys[k].x vs[k] (resRoot + k) []

def retVal : List Value → Value
  | [v] => v
  | vs => .tuple vs.toArray

/-- A function's contract: called with arguments that read as xs it returns what reads as ys; the arguments then read as xs'. -/
def Meets (P : Program) (f : FuncId) (xs ys xs' : List V) : Prop :=
  ∀ (W : World) (lab : Lab) (us : List Value), HoldArgs lab W xs us →
    Calls P f us.toArray W fun e w' => ∃ vs lab', e = .returned (retVal vs) ∧ HoldRes lab' w' ys vs ∧ HoldArgs lab' w' xs' us ∧ Fr W lab w' lab' ∧
      ∀ b q, b < W.heap.size → lab b = some (hidden, q) → lab' b = some (hidden, q) ∧ w'.heap[b]? = W.heap[b]?

/-- A datum that is owned to its last level needs nothing shared. -/
theorem rep_move_full {lab lab' : Lab} {w w' : World} : ∀ {t : Ty} {m : Nat} {x : den t} {us : List Value} {r r' : Nat} {p p' : Path}, t.depth ≤ m → rep lab w t m x us r p →
    (∀ b q, b < w.heap.size → lab b = some (r, p ++ q) → lab' b = some (r', p' ++ q) ∧ w'.heap[b]? = w.heap[b]?) → rep lab' w' t m x us r' p' := by
  intro t
  induction t with
  | int k => intro m x us r r' p p' _ h _; exact h
  | bool => intro m x us r r' p p' _ h _; exact h
  | str => intro m x us r r' p p' _ h _; exact h
  | raw => intro m x us r r' p p' _ h _; exact h
  | unit => intro m x us r r' p p' _ h _; exact h
  | hole => intro m x us r r' p p' _ h _; exact h
  | prod a b iha ihb =>
    intro m x us r r' p p' hd h hx
    simp only [Ty.depth] at hd
    simp only [rep] at h ⊢
    obtain ⟨u1, u2, rfl, h1, h2, h3⟩ := h
    exact ⟨u1, u2, rfl, h1, iha (by omega) h2 (fun b q hb hl => by simpa using hx b (.l :: q) hb (by simpa using hl)), ihb (by omega) h3 (fun b q hb hl => by simpa using hx b (.r :: q) hb (by simpa using hl))⟩
  | slc t ih =>
    intro m x us r r' p p' hd h hx
    simp only [Ty.depth] at hd
    simp only [rep] at h ⊢
    obtain ⟨base, cap, rfl, hc, hm, h⟩ := h
    refine ⟨base, cap, rfl, hc, hm, ?_⟩
    rcases h with h | ⟨g, off, cur, e, fz, rfl, hg, hsz, ho, hr⟩
    · exact .inl h
    · rcases ho with ⟨h0, _⟩ | ⟨h0, hl, h1⟩
      · omega
      · obtain ⟨h2, h3⟩ := hx g [] (lt_of_heap hg) (by simpa using hl)
        exact .inr ⟨g, off, cur, e, fz, rfl, by rw [h3, hg], hsz, .inr ⟨h0, by simpa using h2, h1⟩, fun i hi => ih (by omega) (hr i hi) (fun b q hb hl => by simpa using hx b (.e i :: q) hb (by simpa using hl))⟩
  | ptr t ih =>
    intro m x us r r' p p' hd h hx
    simp only [Ty.depth] at hd
    simp only [rep] at h ⊢
    obtain ⟨g, off, cur, e, fz, rfl, hg, hsz, ho, hr⟩ := h
    rcases ho with ⟨h0, _⟩ | ⟨h0, hl, h1⟩
    · omega
    · obtain ⟨h2, h3⟩ := hx g [] (lt_of_heap hg) (by simpa using hl)
      exact ⟨g, off, cur, e, fz, rfl, by rw [h3, hg], hsz, .inr ⟨h0, by simpa using h2, h1⟩, ih (by omega) hr (fun b q hb hl => by simpa using hx b (.d :: q) hb (by simpa using hl))⟩
  | opt t ih =>
    intro m x us r r' p p' hd h hx
    simp only [rep] at h ⊢
    exact h.imp id fun ⟨y, b, len, cap, h1, h2, h3⟩ => ⟨y, b, len, cap, h1, h2, ih (by simpa [Ty.depth] using hd) h3 hx⟩
  | may t ih =>
    intro m x us r r' p p' hd h hx
    simp only [rep] at h ⊢
    exact h.imp id fun ⟨y, v, h1, h2, h3⟩ => ⟨y, v, h1, h2, ih (by simpa [Ty.depth] using hd) h3 hx⟩
  | shr t ih =>
    intro m x us r r' p p' hd h hx
    simp only [rep] at h ⊢
    obtain ⟨base, cap, rfl, hc, hm, h⟩ := h
    refine ⟨base, cap, rfl, hc, hm, ?_⟩
    refine h.imp id fun ⟨hm1, h⟩ => ?_
    simp only [Ty.depth] at hd
    omega

theorem repV_move_full {lab lab' : Lab} {w w' : World} {t : Ty} {m : Nat} {x : den t} {u : Value} {r r' : Nat} {p p' : Path} (hd : t.depth ≤ m) (h : repV lab w t m x u r p)
    (hx : ∀ b q, b < w.heap.size → lab b = some (r, p ++ q) → lab' b = some (r', p' ++ q) ∧ w'.heap[b]? = w.heap[b]?) : repV lab' w' t m x u r' p' := ⟨h.shape, rep_move_full hd h.rep hx⟩

def full (v : V) : Bool := Nat.ble v.t.depth v.m
def allFull : List V → Bool
  | [] => true
  | v :: vs => match full v with | true => allFull vs | false => false

theorem allFull_get : ∀ {vs : List V}, allFull vs = true → ∀ k (h : k < vs.length), vs[k].t.depth ≤ vs[k].m
  | v :: vs, h, k, hk => by
    simp only [allFull] at h
    split at h
    · rename_i hv
      cases k with
      | zero => exact Nat.le_of_ble_eq_true hv
      | succ k => exact allFull_get h k (by simpa using hk)
    · simp at h

/-- An operand lent: read by the callee, not kept. -/
def lend : OV → Option V
  | .val _ t _ x => some ⟨t, 0, x⟩
  | .ref _ _ p t _ x => match sub p t x with | some ⟨t', x'⟩ => some ⟨t', 0, x'⟩ | none => none
  | _ => none

def lends : List OV → Option (List V)
  | [] => some []
  | ov :: ovs => match lend ov with
    | none => none
    | some v => match lends ovs with
      | none => none
      | some vs => some (v :: vs)

/-- The callee's labels: nothing is its own. -/
theorem lend_ok {c : Ctx} {l : Env} {a : Act} {w : World} {lab lab0 : Lab} {x : Operand} {ov : OV} {v : V} (h : Rel c l a w lab) (hs : Seen l x ov) (hl : lend ov = some v) (h0 : ∀ b, lab b = none → lab0 b = none)
    (hr : ∀ r ∈ ov.rd, ∀ b q, lab b = some (r, q) → lab0 b = none) (i : Nat) : repV lab0 w v.t v.m v.x (a.eval x) i [] := by
  have xf : ∀ {r : Nat} {p : Path}, r ∈ ov.rd → Xfer lab lab0 w w r p i [] (some 0) := fun hrd => ⟨fun b _ hb => ⟨h0 b hb, rfl⟩, fun b q _ hb => ⟨by rw [hr _ hrd b _ hb]; simp [lessThan], rfl⟩⟩
  cases ov with
  | val k t m y =>
    simp only [lend, Option.some.injEq] at hl
    subst hl
    cases k with
    | none => exact hs.1 a lab0 w i [] 0
    | some k =>
      obtain ⟨rfl, hm⟩ := hs
      obtain ⟨u, hu, hrep⟩ := h.vals _ _ hm
      rw [eval_tmp hu]
      simpa [cutTo] using repV_xfer hrep (xf (by simp [OV.rd]))
  | ref k r p t m y =>
    simp only [lend] at hl
    split at hl
    case h_2 => simp at hl
    rename_i t' x' hsub
    simp only [Option.some.injEq] at hl
    subst hl
    obtain ⟨rfl, hm, hrm⟩ := hs
    obtain ⟨u, t0, us0, A0, h1, h2, h3⟩ := h.vals _ _ hm _ _ _ hrm
    obtain ⟨u', h1', hrep⟩ := h.vals _ _ hrm
    rw [h1] at h1'
    obtain rfl := Option.some.inj h1'
    obtain ⟨us', A', hn, hrep'⟩ := rep_nav (A := none) hrep.rep hsub
    rw [h2] at hn
    simp only [Option.some.injEq, Prod.mk.injEq] at hn
    obtain ⟨rfl, rfl, rfl⟩ := hn
    rw [eval_tmp h3]
    simpa [cutTo] using repV_xfer (repV_mk hrep') (xf (r := r) (p := [] ++ p) (by simp [OV.rd]))
  | place k r p t m y => simp [lend] at hl
  | tup k vs => simp [lend] at hl

/-- What the results are in a slot. -/
def resAX : List V → Option AX
  | [] => none
  | [v] => some (.val v.t v.m v.x)
  | vs => some (.tup (vs.map some))

def resPath : List V → Nat → Path
  | [_], _ => []
  | _, k => [.e k]

theorem exec_call {P : Program} {f : FuncId} {fn : Func} {args : Array Operand} {tys : Array TypeId} {o : Oper} (ho : o.op = .call { callee := .value (.func f), args := args, argTypes := tys }) (hf : P.funcs[f]? = some fn) (hb : fn.body.isNone = false) (hname : (fn.name == "runtime.NumGoroutine") = false) (a : Act) (w : World) :
    (execOp a.eval o).run P w = .ok (.enter f (args.map a.eval)) w := by
  have h1 : ¬ fn.name = "runtime.NumGoroutine" := by simpa using hname
  have h2 : ¬ fn.body = none := fun h => by simp [h] at hb
  simp [execOp, ho, resolve, Act.eval, Deferred.ofValue, invoke, callFunc, hf, h1, h2]

section
variable {P : Program} {c : Ctx} {l : Env} {o : Oper}

theorem lends_get {l' : Env} : ∀ {args : List Operand} {ovs : List OV} {vs : List V}, SeenAll l' args ovs → lends ovs = some vs → vs.length = args.length ∧ ∀ i (h1 : i < args.length) (h2 : i < vs.length), ∃ ov, ov ∈ ovs ∧ Seen l' args[i] ov ∧ lend ov = some vs[i]
  | [], [], vs, _, h => by simp only [lends, Option.some.injEq] at h; subst h; simp
  | x :: args, ov :: ovs, vs, hs, h => by
    simp only [lends] at h
    split at h
    · simp at h
    rename_i v hv
    split at h
    · simp at h
    rename_i vs' hvs
    simp only [Option.some.injEq] at h
    subst h
    obtain ⟨h1, h2⟩ := lends_get hs.2 hvs
    refine ⟨by simp [h1], fun i hi1 hi2 => ?_⟩
    cases i with
    | zero => exact ⟨ov, List.mem_cons_self .., hs.1, hv⟩
    | succ i =>
      obtain ⟨ov', h3, h4, h5⟩ := h2 i (by simpa using hi1) (by simpa using hi2)
      exact ⟨ov', List.mem_cons_of_mem _ h3, by simpa using h4, by simpa using h5⟩
  | [], _ :: _, _, hs, _ => hs.elim
  | _ :: _, [], _, hs, _ => hs.elim

/-- Results into a slot, the labels laid out. -/
theorem fin_res {l' : Env} {a : Act} {w w' : World} {lab lab2 : Lab} {ys : List V} {vs : List Value} {rd : List Nat} (hR : Rel c l' a w lab) (hd : DstOK c o) (hlen : vs.length = ys.length) (hfr : Fr c.W0 c.lab0 w' lab2)
    (hk : ∀ k, k < 1000000 → (∀ d, o.dst = some d → k ≠ d) → Keeps lab lab2 w w' k) (hhid : ∀ b q, b < c.W0.heap.size → c.lab0 b = some (hidden, q) → lab2 b = some (hidden, q) ∧ w'.heap[b]? = c.W0.heap[b]?)
    (hres : ∀ d, o.dst = some d → ∀ k (h : k < ys.length) (h' : k < vs.length), repV lab2 w' ys[k].t ys[k].m ys[k].x vs[k] d (resPath ys k)) :
    Rel c (after l' o.dst ⟨rd, resAX ys, []⟩) (a.put o.dst (retVal vs)) w' lab2 := by
  cases hdst : o.dst with
  | none =>
    have := hR.change (a' := a) (w' := w') (lab' := lab2) [] (by simp) hR.defers rfl (fun _ _ _ => rfl) (fun _ _ => rfl) hfr (fun k _ hk2 => hk k hk2 (by simp [hdst]))
    simpa [after, applyUpd, Act.put, purgeAll] using this
  | some d =>
    have hkd : ∀ k, k ≠ d → k < 1000000 → Keeps lab lab2 w w' k := fun k h1 h2 => hk k h2 fun d' hd' => by rw [hdst] at hd'; cases hd'; exact h1
    match ys, vs, hlen, hres with
    | [], [], _, _ => exact fin_dead hR (hd.lt d hdst) (hd.fix d hdst) hfr hkd
    | [y], [v], _, hres => exact fin_val hR (hd.lt d hdst) (hd.fix d hdst) hfr hkd (by simpa [resPath, retVal] using hres d hdst 0 (by simp) (by simp))
    | y1 :: y2 :: ys, v1 :: v2 :: vs, hlen, hres =>
      refine fin hR (hd.lt d hdst) (hd.fix d hdst) hfr hkd ⟨v1 :: v2 :: vs, put_tmps_eq (by rw [hR.size]; exact hd.lt d hdst), by simpa using hlen, fun i v hv => ?_⟩
      rw [List.getElem?_map] at hv
      obtain ⟨y, hy, he⟩ := Option.map_eq_some_iff.1 hv
      cases he
      obtain ⟨hi, rfl⟩ := List.getElem?_eq_some_iff.1 hy
      exact ⟨(v1 :: v2 :: vs)[i]'(by rw [hlen]; exact hi), List.getElem?_eq_getElem _, by simpa [resPath] using hres d hdst i hi (by rw [hlen]; exact hi)⟩

/-- The caller's labels behind a call: blocks that were there keep theirs; the results' go to the slot. -/
def backLab (lab lab' : Lab) (size d : Nat) (pk : Nat → Path) : Lab := fun b =>
  if b < size then lab b else match lab' b with
  | some (r, q) => if resRoot ≤ r then some (d, pk (r - resRoot) ++ q) else none
  | none => none

/-- A call that lends its arguments; the results are the callee's own making. -/
theorem r_call {f : FuncId} {fn : Func} {args : Array Operand} {tys : Array TypeId} {ovs : List OV} {xs ys xs' : List V} (ho : o.op = .call { callee := .value (.func f), args := args, argTypes := tys }) (hv : viewAll l args.toList = some ovs) (hl : lends ovs = some xs)
    (hf : P.funcs[f]? = some fn) (hb : fn.body.isNone = false) (hname : (fn.name == "runtime.NumGoroutine") = false) (hfn : Meets P f xs ys xs') (hfull : allFull ys = true) : SR P c l o ⟨rds ovs, resAX ys, []⟩ := fun l' hag => by
  have hs := seenAll_of (viewAll_agree hv hag)
  intro a w lab hR hd Q
  unfold Oper.wp
  rw [exec_call ho hf hb hname, Oper.upon_enter]
  let lab0 : Lab := fun _ => none
  obtain ⟨hxl, hxg⟩ := lends_get hs hl
  have hargs : HoldArgs lab0 w xs (args.toList.map a.eval) := by
    refine ⟨by simp [hxl], fun i h1 h2 => ?_⟩
    obtain ⟨ov, _, hseen, hlend⟩ := hxg i (by omega) h1
    simpa using lend_ok (lab0 := lab0) hR hseen hlend (fun _ _ => rfl) (fun _ _ _ _ _ => rfl) i
  have hcall := hfn w lab0 (args.toList.map a.eval) hargs
  have harr : (args.toList.map a.eval).toArray = args.map a.eval := by apply Array.ext'; simp
  rw [harr] at hcall
  refine hcall.mono ?_
  rintro e w' ⟨vs, lab', rfl, hres, _, hfr, _⟩
  simp only []
  have hold : ∀ b, b < w.heap.size → lab' b = none ∧ w'.heap[b]? = w.heap[b]? := fun b hb => hfr.old b hb rfl
  let d0 := o.dst.getD 0
  let lab2 := backLab lab lab' w.heap.size d0 (resPath ys)
  have hl2 : ∀ b, b < w.heap.size → lab2 b = lab b := fun b hb => if_pos hb
  have hkeep : ∀ k, Keeps lab lab2 w w' k := fun k => ⟨fun b hb hbl => ⟨by rw [hl2 b hb]; exact hbl, (hold b hb).2⟩, fun b q hb hbl => ⟨by rw [hl2 b hb]; simpa [lessThan] using hbl, (hold b hb).2⟩⟩
  refine ⟨lab2, fin_res hR hd hres.len (hR.fr.next hfr.os hfr.tape hfr.output hfr.size fun b hb hbl => ⟨by rw [hl2 b hb]; exact hbl, (hold b hb).2⟩) (fun k _ _ => hkeep k) (hR.hid_next (hkeep hidden)) ?_⟩
  intro d hdst k hk hk'
  refine repV_move_full (allFull_get hfull k hk) (hres.rep k hk hk') fun b q hb hbl => ⟨?_, rfl⟩
  have hnot : ¬ b < w.heap.size := fun h => by rw [(hold b h).1] at hbl; simp at hbl
  show (if b < w.heap.size then lab b else _) = _
  rw [if_neg hnot, hbl]
  simp [d0, hdst]

end
end Go.Abs
