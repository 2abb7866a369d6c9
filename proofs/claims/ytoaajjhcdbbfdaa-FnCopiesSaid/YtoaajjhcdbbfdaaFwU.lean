/- The framework: walks of code that keep plain values. -/
import Derived.Test.YtoaajjhcdbbfdaaFwS
set_option linter.unusedSimpArgs false
set_option linter.unnecessarySimpa false
set_option linter.unusedVariables false
namespace Go.Abs

section
variable {P : Program} {c : Ctx} {ops : Array Oper}

inductive Chain (P : Program) (c : Ctx) (ops : Array Oper) : Env → List (Nat × Item P c ops) → Env → Prop where
  | nil {l : Env} : Chain P c ops l [] l
  | cons {l : Env} {i : Nat} {x : Item P c ops} {xs : List (Nat × Item P c ops)} {l' : Env} (hx : x.ok l) (h : Chain P c ops (after l x.o.dst x.out) xs l') : Chain P c ops l ((i, x) :: xs) l'

theorem Chain.same {l : Env} {xs : List (Nat × Item P c ops)} {l' : Env} (h : Chain P c ops l xs l') : ∀ {l2 : Env}, uniq l → Same l l2 → ∃ l2', Chain P c ops l2 xs l2' ∧ Same l' l2' := by
  induction h with
  | nil => exact fun _ hs => ⟨_, .nil, hs⟩
  | cons hx _ ih =>
    intro l2 hu hs
    obtain ⟨l2', h1, h2⟩ := ih (uniq_after hu) (hs.after hx.wf)
    exact ⟨l2', .cons (hx.agree fun k _ => hs.look hu k) h1, h2⟩

theorem look_before {x y : Item P c ops} {l : Env} (hu : uniq l) (hx : wfO x.o.dst x.out = true) (hy : closedAt (after l x.o.dst x.out) y.rd y.rd = true) (hd : disj x.wr y.rd = true) : ∀ k ∈ y.rd, look l k = look (after l x.o.dst x.out) k := by
  intro k hk
  obtain ⟨v, hv⟩ := closedAt_some hy k hk
  rw [hv]
  rcases (mem_after hx).1 (look_mem hv) with h1 | ⟨h1, _⟩
  · exact absurd hk (disj_spec hd k (news_keys h1))
  · exact look_of_mem hu h1

/-- An operation that none before it touches may come first. -/
theorem Chain.front {i : Nat} {x : Item P c ops} {ys : List (Nat × Item P c ops)} : ∀ {xs : List (Nat × Item P c ops)} {l l' : Env}, Chain P c ops l (xs ++ (i, x) :: ys) l' → (∀ y ∈ xs, apartB y.2 x = true) → uniq l →
    ∃ l'', Chain P c ops l ((i, x) :: (xs ++ ys)) l'' ∧ Same l' l''
  | [], l, l', h, _, _ => ⟨l', h, fun _ => Iff.rfl⟩
  | (j, y) :: xs, l, l', h, ha, hu => by
    cases h with
    | cons hy h =>
    obtain ⟨l1, h1, hs1⟩ := Chain.front h (fun z hz => ha z (List.mem_cons_of_mem _ hz)) (uniq_after hu)
    cases h1 with
    | cons hx h1 =>
    have hap := ha (j, y) (List.mem_cons_self ..)
    have hap' := hap
    simp only [apartB, Bool.and_eq_true] at hap'
    have hxl : x.ok l := hx.agree (look_before hu hy.wf hx.closed hap'.1.1.1)
    have hyx : y.ok (after l x.o.dst x.out) := hy.agree (look_behind hu hxl.wf hy.closed hap'.1.2)
    obtain ⟨l2, h2, hs2⟩ := h1.same (uniq_after (uniq_after hu)) (after_comm hy.wf hx.wf hy.vclosed hx.vclosed hap)
    exact ⟨l2, .cons hxl (.cons hyx h2), fun kv => (hs1 kv).trans (hs2 kv)⟩

/-- i waits for j, straight or through others. -/
def waitsN (ops : Array Oper) : Nat → Nat → Nat → Bool
  | 0, _, _ => false
  | n + 1, i, j => match ops[i]? with
    | some o => (match o.after.toList.any fun e => Region.binds .any e && Nat.beq e.on j with | true => true | false => o.after.toList.any fun e => Region.binds .any e && waitsN ops n e.on j)
    | none => false
def waits (ops : Array Oper) (i j : Nat) : Bool := waitsN ops 6 i j

theorem waitsN_listed {listed : Nat → Prop} (hc : ∀ i o, ops[i]? = some o → listed i → ∀ e ∈ o.after, Region.binds .any e = true → listed e.on) : ∀ (n i : Nat) (o : Oper) (j : Nat), ops[i]? = some o → (∀ e ∈ o.after, Region.binds .any e = true → listed e.on) → waitsN ops n i j = true → listed j
  | 0, _, _, _, _, _, h => by simp [waitsN] at h
  | n + 1, i, o, j, ho, hd, h => by
    simp only [waitsN, ho] at h
    split at h
    · rename_i h1
      simp only [List.any_eq_true, Bool.and_eq_true] at h1
      obtain ⟨e, he, hb, hj⟩ := h1
      have := hd e (by simpa using he) hb
      rwa [Nat.eq_of_beq_eq_true hj] at this
    · simp only [List.any_eq_true, Bool.and_eq_true] at h
      obtain ⟨e, he, hb, hw⟩ := h
      have hl := hd e (by simpa using he) hb
      cases n with
      | zero => simp [waitsN] at hw
      | succ n =>
        cases ho2 : ops[e.on]? with
        | none => simp [waitsN, ho2] at hw
        | some o2 => exact waitsN_listed hc (n + 1) e.on o2 j ho2 (hc e.on o2 ho2 hl) hw

def pairOK (ops : Array Oper) (y : Nat × Item P c ops) : List (Nat × Item P c ops) → Bool
  | [] => true
  | x :: xs => match apartB y.2 x.2 with
    | true => pairOK ops y xs
    | false => match waits ops x.1 y.1 with | true => pairOK ops y xs | false => false

def pairsOK (ops : Array Oper) : List (Nat × Item P c ops) → Bool
  | [] => true
  | y :: ys => match pairOK ops y ys with | true => pairsOK ops ys | false => false

theorem pairOK_spec {y : Nat × Item P c ops} : ∀ {xs : List (Nat × Item P c ops)}, pairOK ops y xs = true → ∀ x ∈ xs, waits ops x.1 y.1 = true ∨ apartB y.2 x.2 = true
  | [], _ => by simp
  | x :: xs, h => by
    simp only [pairOK] at h
    intro z hz
    split at h
    · rename_i ha
      rcases List.mem_cons.1 hz with rfl | hz
      · exact .inr ha
      · exact pairOK_spec h z hz
    · split at h
      · rename_i hw
        rcases List.mem_cons.1 hz with rfl | hz
        · exact .inl hw
        · exact pairOK_spec h z hz
      · simp at h

theorem pairsOK_split : ∀ {xs ys : List (Nat × Item P c ops)} {x : Nat × Item P c ops}, pairsOK ops (xs ++ x :: ys) = true → (∀ y ∈ xs, waits ops x.1 y.1 = true ∨ apartB y.2 x.2 = true) ∧ pairsOK ops (xs ++ ys) = true
  | [], ys, x, h => by
    simp only [List.nil_append, pairsOK] at h ⊢
    split at h
    · exact ⟨by simp, h⟩
    · simp at h
  | y :: xs, ys, x, h => by
    simp only [List.cons_append, pairsOK] at h
    split at h
    case h_2 => simp at h
    rename_i hp
    obtain ⟨h1, h2⟩ := pairsOK_split h
    refine ⟨fun z hz => ?_, ?_⟩
    · rcases List.mem_cons.1 hz with rfl | hz
      · exact pairOK_spec hp x (by simp)
      · exact h1 z hz
    · have : pairOK ops y (xs ++ ys) = true := by
        have hh := pairOK_spec hp
        clear hp h1 h2 h
        have : ∀ zs : List (Nat × Item P c ops), (∀ z ∈ zs, waits ops z.1 y.1 = true ∨ apartB y.2 z.2 = true) → pairOK ops y zs = true := by
          intro zs
          induction zs with
          | nil => intro _; rfl
          | cons z zs ih =>
            intro hz
            simp only [pairOK]
            have ih' := ih fun w hw => hz w (List.mem_cons_of_mem _ hw)
            rcases hz z (List.mem_cons_self ..) with h1 | h1
            · cases apartB y.2 z.2 with
              | true => exact ih'
              | false => simp only [h1]; exact ih'
            · simp only [h1]; exact ih'
        exact this _ fun z hz => hh z (by rcases List.mem_append.1 hz with h | h <;> simp [h])
      simp only [List.cons_append, pairsOK, this]
      exact h2

/-- What an operation waits for stands before it. -/
def downB (ops : Array Oper) : Nat → List Oper → Bool
  | _, [] => true
  | i, o :: os => match o.after.toList.all (fun e => !Region.binds .any e || Nat.blt e.on i) with | true => downB ops (i + 1) os | false => false

theorem downB_spec : ∀ {os : List Oper} {k : Nat}, downB ops k os = true → ∀ j (h : j < os.length), ∀ e ∈ os[j].after, Region.binds .any e = true → e.on < k + j
  | o :: os, k, h, j, hj, e, he, hb => by
    simp only [downB] at h
    split at h
    case h_2 => simp at h
    rename_i hall
    cases j with
    | zero =>
      have := List.all_eq_true.1 hall e (by simpa using he)
      simp only [hb, Bool.not_true, Bool.false_or, Nat.blt_eq] at this
      simpa using this
    | succ j =>
      have := downB_spec h j (by simpa using hj) e (by simpa using he) hb
      omega

structure Left (ops : Array Oper) (listed : Array Bool) (xs : List (Nat × Item P c ops)) : Prop where
  size : listed.size = ops.size
  mem : ∀ i, (∃ x, (i, x) ∈ xs) ↔ (i < ops.size ∧ listed.getD i true = false)
  op : ∀ i x, (i, x) ∈ xs → ops[i]? = some x.o
  sorted : (xs.map (·.1)).Pairwise (· < ·)
  closed : ∀ i o, ops[i]? = some o → listed.getD i false = true → ∀ e ∈ o.after, Region.binds .any e = true → listed.getD e.on false = true

theorem Left.listed {listed : Array Bool} {xs : List (Nat × Item P c ops)} (h : Left ops listed xs) {i : Nat} (hi : i < ops.size) (hn : ∀ x, (i, x) ∉ xs) : listed.getD i false = true := by
  have hlt : i < listed.size := by rw [h.size]; exact hi
  have : ¬ (i < ops.size ∧ listed.getD i true = false) := fun hc => by obtain ⟨x, hx⟩ := (h.mem i).2 hc; exact hn x hx
  simp only [hi, true_and, Array.getD, hlt, dif_pos] at this ⊢
  simpa using this

theorem mem_ready {listed : Array Bool} {i : Nat} : i ∈ Region.ready .any ops listed ↔ i < ops.size ∧ listed.getD i true = false ∧ ∃ o, ops[i]? = some o ∧ ∀ e ∈ o.after, Region.binds .any e = true → listed.getD e.on false = true := by
  simp only [Region.ready, List.mem_filter, List.mem_range, Bool.and_eq_true, Bool.not_eq_true']
  constructor
  · rintro ⟨h1, h2, h3⟩
    cases ho : ops[i]? with
    | none => rw [ho] at h3; simp at h3
    | some o =>
      refine ⟨h1, h2, o, rfl, fun e he hb => ?_⟩
      rw [ho] at h3
      simp only [Option.map_some, Option.getD_some] at h3
      have := Array.all_eq_true'.1 h3 e he
      simpa [hb] using this
  · rintro ⟨h1, h2, o, ho, h3⟩
    refine ⟨h1, h2, ?_⟩
    rw [ho]
    simp only [Option.map_some, Option.getD_some]
    refine Array.all_eq_true'.2 fun e he => ?_
    cases hb : Region.binds .any e with
    | true => simp [h3 e he hb]
    | false => simp

theorem getD_set_ne {listed : Array Bool} {i k : Nat} {d : Bool} (h : k ≠ i) : (listed.setIfInBounds i true).getD k d = listed.getD k d := by
  simp [Array.getD_eq_getD_getElem?, Array.getElem?_setIfInBounds_ne (Ne.symm h)]

theorem getD_set_eq {listed : Array Bool} {i : Nat} {d : Bool} (h : i < listed.size) : (listed.setIfInBounds i true).getD i d = true := by
  simp [Array.getD_eq_getD_getElem?, h]

theorem any_sound {QQ : Exit → Act → World → Prop} {l' : Env} (hdst : ∀ (i : Nat) o, ops[i]? = some o → DstOK c o) (hdown : ∀ (i : Nat) o, ops[i]? = some o → ∀ e ∈ o.after, Region.binds .any e = true → e.on < i) (hq : ∀ a w lab, Rel c l' a w lab → QQ .normal a w) :
    ∀ (xs : List (Nat × Item P c ops)) (listed : Array Bool) (l lx : Env), Left ops listed xs → Chain P c ops l xs lx → Same l' lx → pairsOK ops xs = true → ∀ a w lab, Rel c l a w lab → wpAny P .any ops QQ xs.length listed a w := by
  intro xs
  induction hn : xs.length generalizing xs with
  | zero =>
    intro listed l lx hL hC hS _ a w lab hR
    have : xs = [] := List.eq_nil_of_length_eq_zero hn
    subst this
    cases hC
    refine ⟨?_, hq a w lab (hR.weaken fun kv h => (hS kv).1 h)⟩
    apply List.eq_nil_iff_forall_not_mem.2
    intro i hi
    obtain ⟨h1, h2, _⟩ := mem_ready.1 hi
    obtain ⟨x, hx⟩ := (hL.mem i).2 ⟨h1, h2⟩
    simp at hx
  | succ n ih =>
    intro listed l lx hL hC hS hP a w lab hR
    refine ⟨fun hr => ?_, fun i hi => ?_⟩
    · -- the first that is left is ready
      exfalso
      cases xs with
      | nil => simp at hn
      | cons y ys =>
      obtain ⟨i, x⟩ := y
      obtain ⟨h1, h2⟩ := (hL.mem i).1 ⟨x, List.mem_cons_self ..⟩
      have ho := hL.op i x (List.mem_cons_self ..)
      have hin : i ∈ Region.ready .any ops listed := mem_ready.2 ⟨h1, h2, x.o, ho, fun e he hb => by
        have hlt := hdown i x.o ho e he hb
        refine hL.listed (by omega) fun z hz => ?_
        have hs := hL.sorted
        simp only [List.map_cons, List.pairwise_cons] at hs
        rcases List.mem_cons.1 hz with he | hz
        · have := (Prod.mk.inj he).1; omega
        · have := hs.1 e.on (List.mem_map.2 ⟨_, hz, rfl⟩); omega⟩
      rw [hr] at hin
      simp at hin
    · obtain ⟨h1, h2, o, ho, hdeps⟩ := mem_ready.1 hi
      obtain ⟨x, hx⟩ := (hL.mem i).2 ⟨h1, h2⟩
      obtain ⟨pre, post, rfl⟩ := List.append_of_mem hx
      have hxo := hL.op i x hx
      rw [ho] at hxo
      obtain rfl := Option.some.inj hxo
      obtain ⟨hp1, hp2⟩ := pairsOK_split hP
      have hap : ∀ y ∈ pre, apartB y.2 x = true := fun y hy => by
        refine (hp1 y hy).resolve_left fun hw => ?_
        have hlst := waitsN_listed (listed := fun i => listed.getD i false = true) hL.closed 6 i _ y.1 ho hdeps hw
        obtain ⟨_, hun⟩ := (hL.mem y.1).1 ⟨y.2, by simp [hy]⟩
        have hlt : y.1 < listed.size := by rw [hL.size]; exact ((hL.mem y.1).1 ⟨y.2, by simp [hy]⟩).1
        simp only [Array.getD, hlt, dif_pos] at hlst hun
        rw [hlst] at hun; simp at hun
      obtain ⟨l2, hC2, hS2⟩ := Chain.front hC hap hR.uniq
      cases hC2 with
      | cons hxok hC2 =>
      have hlen : (pre ++ post).length = n := by simp at hn ⊢; omega
      have hL2 : Left ops (listed.setIfInBounds i true) (pre ++ post) := by
        have hnd : ((pre ++ (i, x) :: post).map (·.1)).Nodup := hL.sorted.imp fun h => Nat.ne_of_lt h
        have hni : ∀ z, (i, z) ∉ pre ++ post := fun z hz => by
          rw [List.map_append, List.map_cons, List.nodup_append] at hnd
          rcases List.mem_append.1 hz with hz | hz
          · exact hnd.2.2 i (List.mem_map.2 ⟨_, hz, rfl⟩) i (List.mem_cons_self ..) rfl
          · have := hnd.2.1
            rw [List.nodup_cons] at this
            exact this.1 (List.mem_map.2 ⟨_, hz, rfl⟩)
        refine ⟨by simp [hL.size], fun k => ?_, fun k y hy => hL.op k y ?_, ?_, fun k ok hok hk e he hb => ?_⟩
        · constructor
          · rintro ⟨y, hy⟩
            have hki : k ≠ i := fun e => hni y (e ▸ hy)
            obtain ⟨h3, h4⟩ := (hL.mem k).1 ⟨y, by rcases List.mem_append.1 hy with h | h <;> simp [h]⟩
            exact ⟨h3, by rw [getD_set_ne hki]; exact h4⟩
          · rintro ⟨h3, h4⟩
            have hki : k ≠ i := fun e => by
              subst e
              rw [getD_set_eq (by rw [hL.size]; exact h3)] at h4
              simp at h4
            rw [getD_set_ne hki] at h4
            obtain ⟨y, hy⟩ := (hL.mem k).2 ⟨h3, h4⟩
            refine ⟨y, ?_⟩
            rcases List.mem_append.1 hy with h | h
            · simp [h]
            · rcases List.mem_cons.1 h with h | h
              · exact absurd (Prod.mk.inj h).1 hki
              · simp [h]
        · rcases List.mem_append.1 hy with h | h <;> simp [h]
        · have := hL.sorted
          rw [List.map_append, List.map_cons, List.pairwise_append] at this
          rw [List.map_append, List.pairwise_append]
          rw [List.pairwise_cons] at this
          exact ⟨this.1, this.2.1.2, fun a ha b hb => this.2.2 a ha b (List.mem_cons_of_mem _ hb)⟩
        · have hold : listed.getD e.on false = true := by
            by_cases hki : k = i
            · subst hki
              rw [ho] at hok
              cases hok
              exact hdeps e he hb
            · rw [getD_set_ne hki] at hk
              exact hL.closed k ok hok hk e he hb
          by_cases hei : e.on = i
          · rw [hei, getD_set_eq (by rw [hL.size]; exact h1)]
          · rw [getD_set_ne hei]; exact hold
      have hrest : ∀ a w lab, Rel c (after l x.o.dst x.out) a w lab → wpAny P .any ops QQ n (listed.setIfInBounds i true) a w := fun a w lab hR' => ih (pre ++ post) hlen _ _ _ hL2 hC2 (fun kv => (hS kv).trans (hS2 kv)) hp2 a w lab hR'
      simp only [wpOp, ho, wanted_of hR hxok.guard]
      cases hruns : x.runs with
      | true =>
        simp only [if_true]
        refine .inl (Oper.wp_mono ?_ (hxok.run hruns _ (fun _ _ => rfl) a w lab hR (hdst i _ ho) QQ))
        rintro a' w' ⟨lab', hR'⟩
        exact hrest a' w' lab' hR'
      | false =>
        simp only [Bool.false_eq_true, if_false]
        have := after_dead hR (hdst i _ ho)
        rw [← hxok.pass hruns] at this
        exact hrest _ w lab this

/-- The operations in the order of the text, gathered to be held against each other at the end. -/
def DT (P : Program) (c : Ctx) (ops : Array Oper) (k : Nat) (done : List (Nat × Item P c ops)) (l : Env) (os : List Oper) (K : Env → Prop) : Prop :=
  ∃ xs l', Chain P c ops l xs l' ∧ xs.map (·.1) = List.range' k os.length ∧ xs.map (·.2.o) = os ∧ pairsOK ops (done.reverse ++ xs) = true ∧ K l'

theorem DT.nil {k : Nat} {done : List (Nat × Item P c ops)} {l : Env} {K : Env → Prop} (hp : pairsOK ops done.reverse = true) (h : K l) : DT P c ops k done l [] K :=
  ⟨[], l, .nil, rfl, rfl, by simpa using hp, h⟩

theorem DT.item {k : Nat} {done : List (Nat × Item P c ops)} {l : Env} {x : Item P c ops} {os : List Oper} {K : Env → Prop} (hx : x.ok l) (h : DT P c ops (k + 1) ((k, x) :: done) (after l x.o.dst x.out) os K) : DT P c ops k done l (x.o :: os) K := by
  obtain ⟨xs, l', h1, h2, h3, h4, h5⟩ := h
  exact ⟨(k, x) :: xs, l', .cons hx h1, by simp [h2, List.range'_succ], by simp [h3], by simpa using h4, h5⟩

theorem within_self : ∀ (a b : List Nat), within b (a ++ b) = true
  | a, [] => rfl
  | a, k :: b => by
    have h : ∀ (l : List Nat), k ∈ l → memb k l = true := by
      intro l
      induction l with
      | nil => simp
      | cons j l ih =>
        intro hk
        simp only [memb]
        split
        · rfl
        · rename_i hj
          rcases List.mem_cons.1 hk with rfl | hk
          · exact absurd rfl (Nat.ne_of_beq_eq_false hj)
          · exact ih hk
    have : within b (a ++ k :: b) = true := by
      have := within_self (a ++ [k]) b
      simpa using this
    simp only [within, h (a ++ k :: b) (by simp), this]

theorem within_left : ∀ (a b : List Nat), within a (a ++ b) = true := by
  intro a b
  have h : ∀ (ks l : List Nat), (∀ k ∈ ks, k ∈ l) → within ks l = true := by
    intro ks
    induction ks with
    | nil => intros; rfl
    | cons k ks ih =>
      intro l hl
      have hm : memb k l = true := by
        have := hl k (List.mem_cons_self ..)
        clear hl ih
        induction l with
        | nil => simp at this
        | cons j l ih =>
          simp only [memb]
          split
          · rfl
          · rename_i hj
            rcases List.mem_cons.1 this with rfl | hk
            · exact absurd rfl (Nat.ne_of_beq_eq_false hj)
            · exact ih hk
      simp only [within, hm]
      exact ih l fun j hj => hl j (List.mem_cons_of_mem _ hj)
  exact h a _ fun k hk => List.mem_append_left _ hk

/-- An operation that runs. -/
theorem DT.cons {k : Nat} {done : List (Nat × Item P c ops)} {l : Env} {o : Oper} {os : List Oper} {out : Out} {K : Env → Prop} (hg : guardSays ops l o true) (hs : SR P c l o out) (hw : wfO o.dst out = true)
    (hc : closedAt l (guardTmp ops o ++ out.rd) (guardTmp ops o ++ out.rd) = true) (hv : valClosed (guardTmp ops o ++ out.rd) out.val = true)
    (h : DT P c ops (k + 1) ((k, ⟨o, out, guardTmp ops o ++ out.rd, true⟩) :: done) (after l o.dst out) os K) : DT P c ops k done l (o :: os) K :=
  DT.item (x := ⟨o, out, guardTmp ops o ++ out.rd, true⟩) ⟨hg, fun _ => hs, fun h => by simp at h, hw, within_self .., within_left .., hc, hv⟩ h

/-- An operation that is passed over. -/
theorem DT.pass {k : Nat} {done : List (Nat × Item P c ops)} {l : Env} {o : Oper} {os : List Oper} {K : Env → Prop} (hg : guardSays ops l o false) (hw : wfO o.dst deadOut = true) (hc : closedAt l (guardTmp ops o) (guardTmp ops o) = true)
    (h : DT P c ops (k + 1) ((k, ⟨o, deadOut, guardTmp ops o, false⟩) :: done) (after l o.dst deadOut) os K) : DT P c ops k done l (o :: os) K :=
  DT.item (x := ⟨o, deadOut, guardTmp ops o, false⟩) ⟨hg, fun h => by simp at h, fun _ => rfl, hw, rfl, by simpa using within_left (guardTmp ops o) [], hc, rfl⟩ h

theorem Rel.drew {l : Env} {a : Act} {w : World} {lab : Lab} (h : Rel c l a w lab) : Rel c l a { w with drawn := w.drawn + 1 } lab := by
  have := h.change (a' := a) (w' := { w with drawn := w.drawn + 1 }) (lab' := lab) [] (by simp) h.defers rfl (fun _ _ _ => rfl) (fun _ _ => rfl) (h.fr.next rfl rfl rfl (Nat.le_refl _) fun _ _ hl => ⟨hl, rfl⟩) (fun k _ _ => ⟨fun b _ hl => ⟨hl, rfl⟩, fun b q _ hl => ⟨by simpa [lessThan] using hl, rfl⟩⟩)
  simpa [purgeAll] using this

/-- A region that draws its order. -/
theorem AW.draw {Q : Exit → Env → Prop} {n : Nat} {fx : List Nat} {id : Nat} {os : List Oper} {l : Env} (hmix : P.follows .mixedOrders = true) (hn : c.n = n) (hfx : ∀ k u, (k, u) ∈ c.fix → k ∈ fx) (hd : dstsOK n fx os = true) (hdown : downB os.toArray 0 os = true)
    (h : DT P c os.toArray 0 [] l os (Q .normal)) : AW P c (.region id os.toArray true) Q l := fun a w lab hR => by
  obtain ⟨xs, l', h1, h2, h3, h4, h5⟩ := h
  have hlen : xs.length = os.length := by have := congrArg List.length h3; simpa using this
  have hget : ∀ (i : Nat) (o : Oper), os.toArray[i]? = some o → ∃ hi : i < os.length, os[i] = o := fun i o ho => by
    simp only [List.getElem?_toArray] at ho
    exact List.getElem?_eq_some_iff.1 ho
  have hxs : ∀ i x, (i, x) ∈ xs → ∃ hi : i < os.length, os[i] = x.o := fun i x hx => by
    obtain ⟨j, hj, he⟩ := List.getElem_of_mem hx
    have e1 : (xs.map (·.1))[j]'(by simpa using hj) = i := by simp [he]
    have e2 : (xs.map (·.2.o))[j]'(by simpa using hj) = x.o := by simp [he]
    simp only [h2, List.getElem_range'] at e1
    have : j = i := by omega
    subst this
    refine ⟨by omega, ?_⟩
    simp only [h3] at e2
    exact e2
  refine wp_region_any hmix ?_
  have hsz : (os.toArray).size = xs.length := by simp [hlen]
  rw [hsz]
  refine any_sound (l' := l') (lx := l') (fun i o ho => ?_) (fun i o ho e he hb => ?_) (fun a' w' lab' hR' => ⟨l', lab', h5, hR'⟩) xs _ l ⟨by simp [hlen], fun i => ?_, fun i x hx => ?_, ?_, fun i o _ hi => absurd hi (by simp [Array.getD])⟩ h1 (fun _ => Iff.rfl) (by simpa using h4) a _ lab hR.drew
  · obtain ⟨hi, rfl⟩ := hget i o ho
    exact dstsOK_spec hfx (by rw [hn]; exact hd) _ (List.getElem_mem hi)
  · obtain ⟨hi, rfl⟩ := hget i o ho
    have := downB_spec hdown i hi e he hb
    omega
  · constructor
    · rintro ⟨x, hx⟩
      obtain ⟨hi, _⟩ := hxs i x hx
      exact ⟨by simpa using hi, by simp [Array.getD_eq_getD_getElem?, hlen, hi]⟩
    · rintro ⟨hi, _⟩
      have hi' : i < xs.length := by simpa [hlen] using hi
      refine ⟨(xs[i]).2, ?_⟩
      have e1 : (xs.map (·.1))[i]'(by simpa using hi') = i := by simp only [h2, List.getElem_range']; omega
      have : xs[i] = (i, xs[i].2) := by
        have : xs[i].1 = i := by simpa using e1
        exact Prod.ext this rfl
      rw [← this]
      exact List.getElem_mem hi'
  · obtain ⟨hi, he⟩ := hxs i x hx
    simp [hi, he]
  · rw [h2]
    exact List.pairwise_lt_range'

/-- A truth value copied, both ways looked at. -/
theorem sr_copyB {l : Env} {o : Oper} {x : Operand} {k : Option Nat} {m : Nat} {b r : Bool} (ho : o.op = .move x ∨ o.op = .assign x) (hv : view l x = some (.val k .bool m b)) (hr : b = r) : SR P c l o ⟨(OV.val k .bool m b).rd, some (.val .bool 0 r), []⟩ := by
  subst hr
  exact r_copy ho hv (by cases m <;> rfl)

theorem RT.splitB {l : Env} {o : Oper} {os : List Oper} {K : Env → Prop} {x : Operand} {k : Option Nat} {m : Nat} {b : Bool} (ho : o.op = .move x ∨ o.op = .assign x) (hv : view l x = some (.val k .bool m b)) (hg : guardSays ops l o true)
    (ht : b = true → RT P c ops (after l o.dst ⟨(OV.val k .bool m b).rd, some (.val .bool 0 true), []⟩) os K) (hf : b = false → RT P c ops (after l o.dst ⟨(OV.val k .bool m b).rd, some (.val .bool 0 false), []⟩) os K) : RT P c ops l (o :: os) K := by
  cases hb : b with
  | true => exact RT.cons hg (sr_copyB ho hv hb) (ht hb)
  | false => exact RT.cons hg (sr_copyB ho hv hb) (hf hb)

theorem DT.splitB {n : Nat} {done : List (Nat × Item P c ops)} {l : Env} {o : Oper} {os : List Oper} {K : Env → Prop} {x : Operand} {k : Option Nat} {m : Nat} {b : Bool} (ho : o.op = .move x ∨ o.op = .assign x) (hv : view l x = some (.val k .bool m b)) (hg : guardSays ops l o true)
    (hw : ∀ r, wfO o.dst ⟨(OV.val k .bool m b).rd, some (.val .bool 0 r), []⟩ = true) (hc : closedAt l (guardTmp ops o ++ (OV.val k .bool m b).rd) (guardTmp ops o ++ (OV.val k .bool m b).rd) = true)
    (ht : b = true → DT P c ops (n + 1) ((n, ⟨o, ⟨(OV.val k .bool m b).rd, some (.val .bool 0 true), []⟩, guardTmp ops o ++ (OV.val k .bool m b).rd, true⟩) :: done) (after l o.dst ⟨(OV.val k .bool m b).rd, some (.val .bool 0 true), []⟩) os K)
    (hf : b = false → DT P c ops (n + 1) ((n, ⟨o, ⟨(OV.val k .bool m b).rd, some (.val .bool 0 false), []⟩, guardTmp ops o ++ (OV.val k .bool m b).rd, true⟩) :: done) (after l o.dst ⟨(OV.val k .bool m b).rd, some (.val .bool 0 false), []⟩) os K) : DT P c ops n done l (o :: os) K := by
  cases hb : b with
  | true => exact DT.cons hg (sr_copyB ho hv hb) (hw true) hc rfl (ht hb)
  | false => exact DT.cons hg (sr_copyB ho hv hb) (hw false) hc rfl (hf hb)

theorem AW.cond_true {Q : Exit → Env → Prop} {l : Env} {q : Operand} {x y : Code} {k : Option Nat} {m : Nat} (hv : view l q = some (.val k .bool m true)) (h : AW P c x Q l) : AW P c (.cond q x y) Q l := AW.cond hv (fun _ => h) (fun h => by simp at h)
theorem AW.cond_false {Q : Exit → Env → Prop} {l : Env} {q : Operand} {x y : Code} {k : Option Nat} {m : Nat} (hv : view l q = some (.val k .bool m false)) (h : AW P c y Q l) : AW P c (.cond q x y) Q l := AW.cond hv (fun h => by simp at h) (fun _ => h)

/-- move, nilCheck: a place stays a place; a pointer to what is owned is a reference. -/
theorem r_place {l : Env} {o : Oper} {k r : Nat} {p : Path} {t : Ty} {m : Nat} {v : den t} (ho : o.op = .move (.tmp k) ∨ o.op = .nilCheck (.tmp k)) (hv : view l (.tmp k) = some (.place k r p t m v)) : SR P c l o ⟨[k, r], some (.place r p), []⟩ := fun l' ha => by
  obtain ⟨_, hm, hr⟩ := seen_of_view (view_agree hv ha)
  refine snd_value fun a w lab hR hd => ?_
  obtain ⟨u, t', us', A, h1, h2, h3⟩ := hR.vals _ _ hm _ _ _ hr
  exact ⟨.pointer (some A), w, lab, by rcases ho with ho | ho <;> simp [execOp, ho, eval_tmp h3], fin_alias hR hd fun d hdst l'' h4 h5 => holds_place hR (hd.lt d hdst) h1 hr h4 h5 h2⟩

/-- nilCheck at a pointer to what is owned. -/
theorem r_nil {l : Env} {o : Oper} {x : Operand} {ov : OV} {g : Tgt} (ho : o.op = .nilCheck x) (hv : view l x = some ov) (hg : target ov = some g) : SR P c l o ⟨ov.rd, some (.place g.r g.p), []⟩ := fun l' ha => by
  have hseen := seen_of_view (view_agree hv ha)
  refine snd_value fun a w lab hR hd => ?_
  obtain ⟨A, t1, us1, u, hh⟩ := target_hit hR hseen hg
  exact ⟨.pointer (some A), w, lab, by simp [execOp, ho, hh.ptr], fin_alias hR hd fun d hdst l'' h4 h5 => holds_place hR (hd.lt d hdst) hh.root hh.mem h4 h5 hh.nav⟩

/-- nilCheck at a shared pointer. -/
theorem r_nil_shared {l : Env} {o : Oper} {x : Operand} {k : Option Nat} {t : Ty} {v : den t} (ho : o.op = .nilCheck x) (hv : view l x = some (.val k (.ptr t) 0 v)) : SR P c l o ⟨(OV.val k (.ptr t) 0 v).rd, some (.val (.ptr t) 0 v), []⟩ := fun l' ha => by
  have hs := seen_of_view (view_agree hv ha)
  refine snd_value fun a w lab hR hd => ?_
  obtain ⟨A, us, hA, _⟩ := shared_ptr (seen_free hR hs rfl 0 [])
  refine ⟨.pointer (some A), w, lab, by simp [execOp, ho, hA], fin_free hR hd fun r p => ?_⟩
  rw [← hA]
  exact seen_free hR hs rfl r p

end
end Go.Abs
