/- The framework: walks of code that keep plain values. -/
import Derived.Test.YtoaajjhcdbbfdaaFwY
set_option linter.unusedSimpArgs false
set_option linter.unnecessarySimpa false
set_option linter.unusedVariables false
namespace Go.Abs

def freeOV : OV → Bool
  | .val none _ _ _ => true
  | .val (some _) t m _ => free t m
  | _ => false

def isIO : Option (Nat × Nat) → Nat → Bool
  | some (j, _), i => Nat.beq i j
  | none, _ => false

/-- How arguments go over: one may be given with all that is its own, the others are lent. -/
def PassAll (io : Option (Nat × Nat)) : Nat → List OV → List V → Prop
  | _, [], [] => True
  | i, ov :: ovs, v :: vs => (match io with
      | some (j, r) => (match Nat.beq i j with | true => owner ov = some ⟨r, [], v.t, v.m, v.x⟩ | false => lend ov = some v)
      | none => lend ov = some v) ∧ PassAll io (i + 1) ovs vs
  | _, _, _ => False

def lentR (io : Option (Nat × Nat)) : Nat → List OV → List Nat
  | _, [] => []
  | i, ov :: ovs => (match isIO io i with | true => [] | false => match freeOV ov with | true => [] | false => ov.rd) ++ lentR io (i + 1) ovs

def labIn (io : Option (Nat × Nat)) (L : List Nat) (lab : Lab) : Lab := fun b => match lab b with
  | none => none
  | some (r, q) => match memb r L with
    | true => none
    | false => match io with
      | some (i, r') => (match Nat.beq r r' with | true => some (i, q) | false => some (hidden, []))
      | none => some (hidden, [])

def labBack (io : Option (Nat × Nat)) (d : Nat) (pk : Nat → Path) : Option (Nat × Path) → Option (Nat × Path)
  | none => none
  | some (j, q) => if resRoot ≤ j then some (d, pk (j - resRoot) ++ q) else match io with
    | some (i, r') => if j = i then some (r', q) else none
    | none => none

def isR (io : Option (Nat × Nat)) (r : Nat) : Bool := match io with | some (_, r') => Nat.beq r r' | none => false

def labOut (io : Option (Nat × Nat)) (lab lab' : Lab) (size d : Nat) (pk : Nat → Path) : Lab := fun b =>
  if b < size then match lab b with
    | none => none
    | some (r, q) => match isR io r with | true => labBack io d pk (lab' b) | false => some (r, q)
  else labBack io d pk (lab' b)

/-- What comes back may share with what was lent only if nothing owned was lent. -/
def backOK (io : Option (Nat × Nat)) (L : List Nat) (ys xs' : List V) : Bool :=
  (match io with | some (i, r') => (match memb r' L with | true => false | false => match xs'[i]? with | some _ => Nat.blt i 999999 | none => false) | none => true) &&
  (match L with | [] => true | _ :: _ => (match allFull ys with | true => (match io with | some (i, _) => (match xs'[i]? with | some v => full v | none => false) | none => true) | false => false))

def upIO (io : Option (Nat × Nat)) (xs' : List V) : List (Nat × Option AX) := match io with
  | some (i, r) => (match xs'[i]? with | some v => [(r, some (.val v.t v.m v.x))] | none => [])
  | none => []

section
variable {P : Program} {c : Ctx} {l : Env} {o : Oper}

theorem passAll_get {l' : Env} {io : Option (Nat × Nat)} : ∀ {args : List Operand} {ovs : List OV} {vs : List V} {i : Nat}, SeenAll l' args ovs → PassAll io i ovs vs → vs.length = args.length ∧
    ∀ j (h1 : j < args.length) (h2 : j < vs.length), ∃ ov, Seen l' args[j] ov ∧ (∀ r, io = some (i + j, r) → owner ov = some ⟨r, [], vs[j].t, vs[j].m, vs[j].x⟩) ∧ (isIO io (i + j) = false → lend ov = some vs[j] ∧ (freeOV ov = true ∨ ∀ r ∈ ov.rd, r ∈ lentR io i ovs))
  | [], [], [], _, _, _ => by simp
  | x :: args, ov :: ovs, v :: vs, i, hs, h => by
    obtain ⟨h1, h2⟩ := passAll_get (i := i + 1) hs.2 h.2
    refine ⟨by simp [h1], fun j hj1 hj2 => ?_⟩
    cases j with
    | zero =>
      refine ⟨ov, hs.1, fun r hr => ?_, fun hio => ⟨?_, ?_⟩⟩
      · have := h.1
        subst hr
        simpa [show Nat.beq i i = true from Nat.beq_refl i] using this
      · have := h.1
        simp only [Nat.add_zero] at hio
        cases io with
        | none => simpa using this
        | some p =>
          obtain ⟨j, r⟩ := p
          simp only [isIO] at hio
          simpa [hio] using this
      · simp only [Nat.add_zero] at hio
        cases hf : freeOV ov with
        | true => exact .inl rfl
        | false => exact .inr fun r hr => by simp only [lentR, hio, hf]; exact List.mem_append_left _ hr
    | succ j =>
      obtain ⟨ov', h3, h4, h5⟩ := h2 j (by simpa using hj1) (by simpa using hj2)
      refine ⟨ov', by simpa using h3, fun r hr => by simpa using h4 r (by rw [hr]; congr 2; omega), fun hio => ?_⟩
      obtain ⟨h6, h7⟩ := h5 (by rw [show i + 1 + j = i + (j + 1) by omega]; exact hio)
      refine ⟨by simpa using h6, h7.imp id fun h8 r hr => ?_⟩
      simp only [lentR]
      exact List.mem_append_right _ (h8 r hr)
  | [], _ :: _, _, _, hs, _ => hs.elim
  | _ :: _, [], _, _, hs, _ => hs.elim
  | [], [], _ :: _, _, _, h => by simp [PassAll] at h
  | _ :: _, _ :: _, [], _, _, h => by simp [PassAll] at h

theorem labIn_none {io : Option (Nat × Nat)} {L : List Nat} {lab : Lab} {b : Nat} (h : lab b = none) : labIn io L lab b = none := by simp [labIn, h]
theorem labIn_lent {io : Option (Nat × Nat)} {L : List Nat} {lab : Lab} {b r : Nat} {q : Path} (h : lab b = some (r, q)) (hr : r ∈ L) : labIn io L lab b = none := by
  have : memb r L = true := by cases hm : memb r L with | true => rfl | false => exact absurd hr (memb_false hm)
  simp [labIn, h, this]
theorem labIn_io {i r' : Nat} {L : List Nat} {lab : Lab} {b : Nat} {q : Path} (h : lab b = some (r', q)) (hr : memb r' L = false) : labIn (some (i, r')) L lab b = some (i, q) := by
  simp [labIn, h, hr, show Nat.beq r' r' = true from Nat.beq_refl r']
theorem labIn_hid {io : Option (Nat × Nat)} {L : List Nat} {lab : Lab} {b r : Nat} {q : Path} (h : lab b = some (r, q)) (hr : memb r L = false) (hio : isR io r = false) : labIn io L lab b = some (hidden, []) := by
  cases io with
  | none => simp [labIn, h, hr]
  | some p => obtain ⟨i, r'⟩ := p; simp only [isR] at hio; simp [labIn, h, hr, hio]

theorem lend_free {a : Act} {w : World} {lab lab0 : Lab} {x : Operand} {ov : OV} {v : V} (h : Rel c l a w lab) (hs : Seen l x ov) (hl : lend ov = some v) (hf : freeOV ov = true) (h0 : ∀ b, lab b = none → lab0 b = none) (i : Nat) : repV lab0 w v.t v.m v.x (a.eval x) i [] := by
  cases ov with
  | val k t m y =>
    cases k with
    | none => exact lend_ok h hs hl h0 (fun r hr => by simp [OV.rd] at hr) i
    | some k =>
      simp only [lend, Option.some.injEq] at hl
      subst hl
      have h1 := seen_free h hs hf i []
      exact ⟨h1.shape, rep_move_shared (fun b hb hl => ⟨h0 b hl, rfl⟩) h1.rep⟩
  | _ => simp [freeOV] at hf

theorem r_callG {f : FuncId} {fn : Func} {args : Array Operand} {tys : Array TypeId} {ovs : List OV} {xs ys xs' : List V} (io : Option (Nat × Nat)) (ho : o.op = .call { callee := .value (.func f), args := args, argTypes := tys }) (hv : viewAll l args.toList = some ovs)
    (hf : P.funcs[f]? = some fn) (hb : fn.body.isNone = false) (hname : (fn.name == "runtime.NumGoroutine") = false) (hfn : Meets P f xs ys xs') (hp : PassAll io 0 ovs xs) (hok : backOK io (lentR io 0 ovs) ys xs' = true) :
    SR P c l o ⟨rds ovs, resAX ys, upIO io xs'⟩ := fun l' hag => by
  have hs := seenAll_of (viewAll_agree hv hag)
  intro a w lab hR hd Q
  unfold Oper.wp
  rw [exec_call ho hf hb hname, Oper.upon_enter]
  let L := lentR io 0 ovs
  let lab0 := labIn io L lab
  obtain ⟨hxl, hxg⟩ := passAll_get hs hp
  simp only [backOK, Bool.and_eq_true] at hok
  obtain ⟨hok1, hok2⟩ := hok
  -- the owner's root is not lent
  have hiok : ∀ i r', io = some (i, r') → memb r' L = false ∧ i < 999999 ∧ ∃ v, xs'[i]? = some v := fun i r' he => by
    subst he
    simp only at hok1
    split at hok1
    · cases hok1
    · rename_i hm
      split at hok1
      · rename_i v hv; exact ⟨hm, by simpa [Nat.blt_eq] using hok1, v, hv⟩
      · cases hok1
  have ioRoot : ∀ i r', io = some (i, r') → i < args.toList.length → ∃ (hi : i < xs.length) (u : Value), (r', AX.val xs[i].t xs[i].m xs[i].x) ∈ l' ∧ a.tmps[r']? = some u ∧ (args.toList.map a.eval)[i]? = some u ∧ repV lab w xs[i].t xs[i].m xs[i].x u r' [] := fun i r' he hi => by
    have hi2 : i < xs.length := by omega
    obtain ⟨ov, hseen, how, _⟩ := hxg i hi hi2
    have how := how r' (by simpa using he)
    obtain ⟨t1, us1, A, u, hh⟩ := owner_own hR hseen how
    refine ⟨hi2, u, hh.mem, hh.root, ?_, hh.rep⟩
    have hn := hh.nav
    simp only [nav, Option.some.injEq, Prod.mk.injEq] at hn
    obtain ⟨rfl, rfl, _⟩ := hn
    have := hh.val
    rw [mkV_cellsOf hh.rep.shape] at this
    simpa [List.getElem?_eq_getElem hi] using this
  have hargs : HoldArgs lab0 w xs (args.toList.map a.eval) := by
    refine ⟨by simp [hxl], fun i h1 h2 => ?_⟩
    have hi : i < args.toList.length := by simpa using h2
    obtain ⟨ov, hseen, _, hlend⟩ := hxg i hi h1
    cases hio : isIO io i with
    | false =>
      obtain ⟨h3, h4⟩ := hlend (by simpa using hio)
      rcases h4 with h4 | h4
      · simpa using lend_free (lab0 := lab0) hR hseen h3 h4 (fun b hb => labIn_none hb) i
      · simpa using lend_ok (lab0 := lab0) hR hseen h3 (fun b hb => labIn_none hb) (fun r hr b q hb => labIn_lent hb (h4 r hr)) i
    | true =>
      obtain ⟨j, r', he⟩ : ∃ j r', io = some (j, r') := by
        cases io with
        | none => simp [isIO] at hio
        | some p => exact ⟨p.1, p.2, rfl⟩
      have hij : i = j := by rw [he] at hio; simp only [isIO] at hio; exact Nat.eq_of_beq_eq_true hio
      subst hij
      obtain ⟨hi2, u, _, _, hu, hrep⟩ := ioRoot i r' he hi
      have hu' : (args.toList.map a.eval)[i] = u := by
        have := List.getElem?_eq_getElem h2
        rw [hu] at this
        exact (Option.some.inj this).symm
      rw [hu']
      have := repV_xfer (k := none) hrep (lab' := lab0) (w' := w) (r' := i) (p' := []) ⟨fun b _ hb => ⟨labIn_none hb, rfl⟩, fun b q _ hb => ⟨by
        show labIn io L lab b = _
        rw [he]
        rw [labIn_io (by simpa using hb) (hiok i r' he).1]
        simp [lessThan], rfl⟩⟩
      simpa [cutTo] using this
  have hcall := hfn w lab0 (args.toList.map a.eval) hargs
  have harr : (args.toList.map a.eval).toArray = args.map a.eval := by apply Array.ext'; simp
  rw [harr] at hcall
  refine hcall.mono ?_
  rintro e w' ⟨vs, lab', rfl, hres, hback, hfr, hhid⟩
  simp only []
  let d0 := o.dst.getD 0
  let lab2 := labOut io lab lab' w.heap.size d0 (resPath ys)
  -- blocks that were there
  have hshr : ∀ b, b < w.heap.size → lab b = none → lab2 b = none ∧ w'.heap[b]? = w.heap[b]? := fun b hb hl => ⟨by simp [lab2, labOut, hb, hl], (hfr.old b hb (labIn_none hl)).2⟩
  have hoth : ∀ b r q, b < w.heap.size → lab b = some (r, q) → isR io r = false → lab2 b = some (r, q) ∧ w'.heap[b]? = w.heap[b]? := fun b r q hb hl hr => by
    refine ⟨by simp [lab2, labOut, hb, hl, hr], ?_⟩
    cases hm : memb r L with
    | true =>
      have : r ∈ L := Classical.byContradiction fun hn => by
        have := memb_true hm; exact hn this
      exact (hfr.old b hb (labIn_lent hl this)).2
    | false => exact (hhid b [] hb (labIn_hid hl hm hr)).2
  have hkeep : ∀ k, isR io k = false → Keeps lab lab2 w w' k := fun k hk => ⟨fun b hb hbl => hshr b hb hbl, fun b q hb hbl => by
    obtain ⟨h1, h2⟩ := hoth b k q hb (by simpa using hbl) hk
    exact ⟨by rw [h1]; simp [lessThan], h2⟩⟩
  have hfr2 : Fr c.W0 c.lab0 w' lab2 := hR.fr.next hfr.os hfr.tape hfr.output hfr.size fun b hb hbl => hshr b hb hbl
  -- what comes back under a root of the callee's
  have hxf : ∀ (t : Ty) (m : Nat) (x : den t) (u : Value) (j r2 : Nat) (p2 : Path), (L = [] ∨ t.depth ≤ m) → repV lab' w' t m x u j [] → (∀ q, labBack io d0 (resPath ys) (some (j, q)) = some (r2, p2 ++ q)) → (j = hidden → False) → repV lab2 w' t m x u r2 p2 := by
    intro t m x u j r2 p2 hL hrep hj hjh
    have hown : ∀ b q, b < w'.heap.size → lab' b = some (j, q) → lab2 b = some (r2, p2 ++ q) := fun b q hb hl => by
      show labOut io lab lab' w.heap.size d0 (resPath ys) b = _
      unfold labOut
      split
      · rename_i hlt
        split
        · rename_i hn
          have := (hfr.old b hlt (labIn_none hn)).1
          rw [hl] at this; cases this
        · rename_i r q0 hn
          cases hr : isR io r with
          | true => simp only [hl]; exact hj q
          | false =>
            exfalso
            cases hm : memb r L with
            | true =>
              have := (hfr.old b hlt (labIn_lent hn (memb_true hm))).1
              rw [hl] at this; cases this
            | false =>
              have := (hhid b [] hlt (labIn_hid hn hm hr)).1
              rw [hl] at this
              simp only [Option.some.injEq, Prod.mk.injEq] at this
              exact hjh this.1
      · simp only [hl]; exact hj q
    rcases hL with hL | hL
    · have := repV_xfer (k := none) hrep (lab' := lab2) (w' := w') (r' := r2) (p' := p2) ⟨fun b hb hl => ⟨?_, rfl⟩, fun b q hb hl => ⟨by rw [hown b q hb (by simpa using hl)]; simp [lessThan], rfl⟩⟩
      · simpa [cutTo] using this
      · show labOut io lab lab' w.heap.size d0 (resPath ys) b = _
        unfold labOut
        split
        · rename_i hlt
          split
          · rfl
          · rename_i r q0 hn
            cases hr : isR io r with
            | true => simp [hl, labBack]
            | false =>
              exfalso
              have hm : memb r L = false := by rw [hL]; rfl
              have := (hhid b [] hlt (labIn_hid hn hm hr)).1
              rw [hl] at this; cases this
        · simp [hl, labBack]
    · exact repV_move_full hL hrep fun b q hb hl => ⟨hown b q hb (by simpa using hl), rfl⟩
  have hfullq : L = [] ∨ (allFull ys = true ∧ ∀ i r', io = some (i, r') → ∀ v, xs'[i]? = some v → v.t.depth ≤ v.m) := by
    cases hL : lentR io 0 ovs with
    | nil => exact .inl hL
    | cons k ks =>
      right
      rw [hL] at hok2
      simp only at hok2
      split at hok2
      · rename_i hfu
        refine ⟨hfu, fun i r' he v hv => ?_⟩
        subst he
        simp only [hv] at hok2
        exact Nat.le_of_ble_eq_true hok2
      · cases hok2
  -- the state behind the argument's change
  have hR1 : Rel c (applyUpd l' (upIO io xs')) a w' lab2 := by
    have none_case : (∀ k, isR io k = false) → Rel c l' a w' lab2 := fun hno => by
      have := hR.change (a' := a) (w' := w') (lab' := lab2) [] (by simp) hR.defers rfl (fun _ _ _ => rfl) (fun _ _ => rfl) hfr2 (fun k _ _ => hkeep k (hno k))
      simpa [purgeAll] using this
    cases hio : io with
    | none => simpa [upIO, applyUpd] using none_case (by rw [hio]; simp [isR])
    | some p =>
      obtain ⟨i, r'⟩ := p
      simp only [upIO]
      cases hx : xs'[i]? with
      | none =>
        obtain ⟨_, _, v, hv⟩ := hiok i r' hio
        rw [hx] at hv; cases hv
      | some v =>
        simp only [applyUpd]
        have hlen := hback.1
        obtain ⟨hi', rfl⟩ := List.getElem?_eq_some_iff.1 hx
        have hia : i < args.toList.length := by simp only [List.length_map] at hlen; omega
        obtain ⟨hi2, u, hmem, hroot, hu, hrep⟩ := ioRoot i r' hio hia
        have hb := hback.2 i hi' (by omega)
        have hu' : (args.toList.map a.eval)[i]'(by simpa using hia) = u := by
          have := List.getElem?_eq_getElem (l := args.toList.map a.eval) (i := i) (by simpa using hia)
          rw [hu] at this
          exact (Option.some.inj this).symm
        rw [hu'] at hb
        have hires := (hiok i r' hio).2.1
        refine hR.put hmem hroot (hxf _ _ _ u i r' [] ?_ hb (fun q => ?_) ?_) hR.defers rfl (fun _ => rfl) hfr2 (fun k hk _ => hkeep k ?_)
        · exact hfullq.imp id fun h => h.2 i r' hio _ hx
        · rw [hio]; have : ¬ resRoot ≤ i := by unfold resRoot; omega
          simp [labBack, this]
        · unfold hidden; omega
        · rw [hio]; simp only [isR]; cases hbq : Nat.beq k r' with
          | false => rfl
          | true => exact absurd (Nat.eq_of_beq_eq_true hbq) hk
  have hfin := fin_res (rd := rds ovs) hR1 hd hres.len hfr2 (fun k _ _ => Keeps.refl lab2 w' k) (fun b q hb hbl => hR1.hid b q hb hbl) (fun d hdst k hk hk' => ?_)
  · refine ⟨lab2, ?_⟩
    have he : after l' o.dst ⟨rds ovs, resAX ys, upIO io xs'⟩ = after (applyUpd l' (upIO io xs')) o.dst ⟨rds ovs, resAX ys, []⟩ := by
      unfold after
      simp only [applyUpd]
    rw [he]
    exact hfin
  · refine hxf _ _ _ _ (resRoot + k) d (resPath ys k) ?_ (hres.rep k hk hk') (fun q => ?_) (by unfold resRoot hidden; omega)
    · exact hfullq.imp id fun h => allFull_get h.1 k hk
    · simp [labBack, d0, hdst]

end
end Go.Abs
