/- The walks: each function computes what its pure program says. -/
import Derived.Test.YtoaajjhcdbbfdaaWalk1
set_option linter.unusedSimpArgs false
set_option linter.unnecessarySimpa false
set_option linter.unusedVariables false
set_option maxRecDepth 100000
set_option maxHeartbeats 4000000
namespace Go.Proofs.Ytoaajjhcdbbfdaa
open Go.Abs Go.Pure
-- theorem hmix : Try.prog.follows .mixedOrders = true := by kernel_rfl
theorem W44  {a : (Int × ((List (Int × ((List Int) × Unit))) × Unit))} {r : (List Int)} (h0 : spec_l31Code a = some r) : Meets Try.prog 44 [⟨ty26, 0, a⟩] [⟨ty38, 1, r⟩] [⟨ty26, 0, a⟩] := by
 refine Meets.of_body (fn := Try.f44) Try.func44 rfl rfl rfl fun c hn hfx => ?_
 unfold spec_l31Code at h0
 refine AW.seq (AW.reg hn hfx rfl ?_)
 refine .cons rfl (r_box [] rfl rfl rfl) <| .cons rfl (r_nilS (m := 1) (.inr rfl) ok38) <| .nil ?_
 refine AW.sub [(1, _)] ⟨rfl, trivial⟩ ?_
 refine AW.seq (AW.reg hn hfx rfl ?_)
 refine .cons rfl (r_buildSlice [] (e := tInt) (mc := 0) rfl rfl rfl ok38 rfl rfl rfl) <| .cons rfl (r_assign [] (.inl rfl) rfl rfl) <| .nil ?_
 refine AW.sub [(1, _), (3, _)] ⟨rfl, rfl, trivial⟩ ?_
 refine AW.seq ?_
 refine AW.seq (AW.reg hn hfx rfl ?_)
 refine .cons rfl (r_copy (.inr rfl) rfl rfl) <| .nil ?_
 refine AW.sub [(1, _), (3, _), (4, _)] ⟨rfl, rfl, rfl, trivial⟩ ?_
 obtain ⟨z9, h1, h0⟩ := bindE h0
 refine AW.joinJ [] trivial [(3, .val ty38 1 z9)] ?_ ?_
 ·refine AW.block ?_
  refine AW.loopP h1 [(1, _)] ⟨rfl, trivial⟩ (fun s13 => [(3, .val ty38 1 s13.1), (4, .val tInt 0 s13.2)]) ⟨rfl, rfl, rfl, trivial⟩ fun s13 z16 h2 => ?_
  refine AW.seq ?_
  refine AW.seq (AW.reg hn hfx rfl ?_)
  refine .cons rfl (r_copy (.inl rfl) rfl rfl) <| .cons rfl (r_field rfl rfl rfl rfl ok26 rfl rfl) <| .cons rfl (r_load rfl rfl rfl rfl ok24 rfl) <| .cons rfl (r_len rfl rfl ok24 rfl) ?_
  refine RT.sub [(1, _), (3, _), (4, _), (6, _), (9, _)] ⟨rfl, rfl, rfl, rfl, rfl, trivial⟩ ?_
  refine .cons rfl (r_cmp rfl rfl rfl rfl rfl) <| .nil ?_
  refine AW.sub [(1, _), (3, _), (4, _), (10, _)] ⟨rfl, rfl, rfl, rfl, trivial⟩ ?_
  refine AW.ifP rfl h2 (fun h2 => ?_) (fun h2 => ?_)
  ·refine AW.skip ?_
   refine AW.seq (AW.block ?_)
   refine AW.reg hn hfx rfl ?_
   refine .cons rfl (r_alias rfl rfl) <| .cons rfl (r_field rfl rfl rfl rfl ok26 rfl rfl) <| .cons rfl (r_load rfl rfl rfl rfl ok24 rfl) <| .cons rfl (r_copy (.inl rfl) rfl rfl) ?_
   refine RT.sub [(1, _), (3, _), (4, _), (13, _), (15, _), (16, _)] ⟨rfl, rfl, rfl, rfl, rfl, rfl, trivial⟩ ?_
   obtain ⟨x14, hx14, h2⟩ := bindE h2
   refine .cons rfl (r_index_shared rfl rfl rfl ok24 (idx_nn hx14) (idx_get hx14)) <| .cons rfl (r_field_shared rfl rfl ok72 rfl rfl rfl) <| .cons rfl (r_load_shared rfl rfl ok38) ?_
   obtain ⟨x15, hx15, h2⟩ := bindE h2
   refine .cons rfl (r_append [] rfl rfl rfl ok38 rfl (mr := 0) rfl rfl (app_len hx15) (app_eq hx15)) ?_
   refine RT.sub [(1, _), (4, _), (20, _)] ⟨rfl, rfl, rfl, trivial⟩ ?_
   refine .cons rfl (r_assign [] (.inl rfl) rfl rfl) <| .nil ?_
   refine AW.sub [(1, _), (3, _), (4, _)] ⟨rfl, rfl, rfl, trivial⟩ ?_
   refine AW.reg hn hfx rfl ?_
   refine .cons rfl (r_copy (.inl rfl) rfl rfl) <| .cons rfl (r_arith rfl rfl rfl rfl rfl) <| .cons rfl (r_copy (.inr rfl) rfl rfl) <| .nil ?_
   exact ⟨_, (Option.some.inj h2).symm, ⟨rfl, rfl, rfl, trivial⟩⟩
  ·refine AW.exit ?_
   refine ⟨_, (Option.some.inj h2).symm, fun hz => ?_⟩
   subst hz
   exact ⟨rfl, trivial⟩
 ·intro l1 hl1
  refine AW.weaken hl1.sub ?_
  refine AW.seq (AW.reg hn hfx rfl ?_)
  refine .cons rfl (r_alias rfl rfl) <| .cons rfl (r_assign [21] (.inl rfl) rfl rfl) <| .nil ?_
  refine AW.sub [(2, _)] ⟨rfl, trivial⟩ ?_
  refine AW.ret ?_
  obtain rfl := Option.some.inj h0
  exact ⟨_, .tmp rfl rfl .nil, .inl ⟨rfl, rfl⟩, trivial⟩

theorem W65  {a : (List Int)} {b : (List Int)} {r : Bool} (h0 : spec_l1Same a b = some r) : Meets Try.prog 65 [⟨ty38, 0, a⟩, ⟨ty38, 0, b⟩] [⟨.bool, 0, r⟩] [⟨ty38, 0, a⟩, ⟨ty38, 0, b⟩] := by
 refine Meets.of_body (fn := Try.f65) Try.func65 rfl rfl rfl fun c hn hfx => ?_
 unfold spec_l1Same at h0
 refine AW.seq (AW.reg hn hfx rfl ?_)
 refine .cons rfl (r_copy (.inr rfl) rfl rfl) <| .nil ?_
 refine AW.sub [(0, _), (1, _)] ⟨rfl, rfl, trivial⟩ ?_
 refine AW.seq ?_
 refine AW.seq (AW.reg hn hfx rfl ?_)
 refine .cons rfl (r_copy (.inl rfl) rfl rfl) <| .cons rfl (r_len rfl rfl ok38 rfl) <| .cons rfl (r_copy (.inl rfl) rfl rfl) <| .cons rfl (r_len rfl rfl ok38 rfl) ?_
 refine RT.sub [(0, _), (1, _), (7, _), (9, _)] ⟨rfl, rfl, rfl, rfl, trivial⟩ ?_
 refine .cons rfl (r_cmp rfl rfl rfl rfl rfl) <| .nil ?_
 refine AW.sub [(0, _), (1, _), (10, _)] ⟨rfl, rfl, rfl, trivial⟩ ?_
 refine AW.ifP rfl h0 (fun h0 => ?_) (fun h0 => ?_)
 ·refine AW.seq (AW.reg hn hfx rfl ?_)
  refine .cons rfl (r_copy (.inr rfl) rfl rfl) <| .nil ?_
  refine AW.sub [(4, _)] ⟨rfl, trivial⟩ ?_
  refine AW.ret ?_
  obtain rfl := Option.some.inj h0
  exact ⟨_, .tmp rfl rfl .nil, .inl ⟨rfl, rfl⟩, .inl ⟨rfl, rfl⟩, trivial⟩
 ·refine AW.skip ?_
  refine AW.seq ?_
  refine AW.seq (AW.reg hn hfx rfl ?_)
  refine .cons rfl (r_copy (.inr rfl) rfl rfl) <| .nil ?_
  refine AW.sub [(0, _), (1, _), (5, _)] ⟨rfl, rfl, rfl, trivial⟩ ?_
  obtain ⟨z9, h1, h0⟩ := bindE h0
  refine AW.joinX z9 [] trivial (fun s8 => []) ?_ ?_
  ·refine AW.block ?_
   refine AW.loopP h1 [(0, _), (1, _)] ⟨rfl, rfl, trivial⟩ (fun s13 => [(5, .val tInt 0 s13)]) ⟨rfl, rfl, rfl, trivial⟩ fun s13 z16 h2 => ?_
   refine AW.seq ?_
   refine AW.seq (AW.reg hn hfx rfl ?_)
   refine .cons rfl (r_copy (.inl rfl) rfl rfl) <| .cons rfl (r_copy (.inl rfl) rfl rfl) <| .cons rfl (r_len rfl rfl ok38 rfl) <| .cons rfl (r_cmp rfl rfl rfl rfl rfl) <| .nil ?_
   refine AW.sub [(0, _), (1, _), (5, _), (14, _)] ⟨rfl, rfl, rfl, rfl, trivial⟩ ?_
   refine AW.ifP rfl h2 (fun h2 => ?_) (fun h2 => ?_)
   ·refine AW.skip ?_
    refine AW.seq (AW.block ?_)
    refine AW.seq (AW.draw hmix hn hfx rfl rfl ?_)
    refine .cons rfl (r_copy (.inl rfl) rfl rfl) rfl rfl rfl <| .cons rfl (r_copy (.inl rfl) rfl rfl) rfl rfl rfl ?_
    obtain ⟨x14, hx14, h2⟩ := bindE h2
    refine .cons rfl (r_index_shared rfl rfl rfl ok38 (idx_nn hx14) (idx_get hx14)) rfl rfl rfl <| .cons rfl (r_load_shared rfl rfl ok3) rfl rfl rfl ?_
    refine DT.eq [(20, _), (19, _), (18, _), (17, _), (0, _), (1, _), (5, _), (14, _)] rfl ?_
    refine .cons rfl (r_copy (.inl rfl) rfl rfl) rfl rfl rfl <| .cons rfl (r_copy (.inl rfl) rfl rfl) rfl rfl rfl ?_
    obtain ⟨x15, hx15, h2⟩ := bindE h2
    refine .cons rfl (r_index_shared rfl rfl rfl ok38 (idx_nn hx15) (idx_get hx15)) rfl rfl rfl <| .cons rfl (r_load_shared rfl rfl ok3) rfl rfl rfl ?_
    refine DT.eq [(24, _), (23, _), (22, _), (21, _), (20, _), (19, _), (18, _), (17, _), (0, _), (1, _), (5, _), (14, _)] rfl ?_
    refine .cons rfl (r_cmp rfl rfl rfl rfl rfl) rfl rfl rfl <| .nil rfl ?_
    refine AW.sub [(0, _), (1, _), (5, _), (25, _)] ⟨rfl, rfl, rfl, rfl, trivial⟩ ?_
    refine AW.ifP rfl h2 (fun h2 => ?_) (fun h2 => ?_)
    ·refine AW.seq (AW.reg hn hfx rfl ?_)
     refine .cons rfl (r_copy (.inr rfl) rfl rfl) <| .nil ?_
     refine AW.sub [(4, _)] ⟨rfl, trivial⟩ ?_
     refine AW.ret ?_
     refine ⟨_, (Option.some.inj h2).symm, fun hz => ?_⟩
     subst hz
     obtain rfl := Option.some.inj h0
     exact ⟨_, .tmp rfl rfl .nil, .inl ⟨rfl, rfl⟩, .inl ⟨rfl, rfl⟩, trivial⟩
    ·refine AW.skip ?_
     refine AW.reg hn hfx rfl ?_
     refine .cons rfl (r_copy (.inl rfl) rfl rfl) <| .cons rfl (r_arith rfl rfl rfl rfl rfl) <| .cons rfl (r_copy (.inr rfl) rfl rfl) <| .nil ?_
     exact ⟨_, (Option.some.inj h2).symm, ⟨rfl, rfl, rfl, trivial⟩⟩
   ·refine AW.exit ?_
    refine ⟨_, (Option.some.inj h2).symm, fun hz => ?_⟩
    subst hz
    exact ⟨_, rfl, trivial⟩
  ·rintro s8 rfl l1 hl1
   refine AW.weaken hl1.sub ?_
   refine AW.seq (AW.reg hn hfx rfl ?_)
   refine .cons rfl (r_copy (.inr rfl) rfl rfl) <| .nil ?_
   refine AW.sub [(4, _)] ⟨rfl, trivial⟩ ?_
   refine AW.ret ?_
   obtain rfl := Option.some.inj h0
   exact ⟨_, .tmp rfl rfl .nil, .inl ⟨rfl, rfl⟩, .inl ⟨rfl, rfl⟩, trivial⟩

theorem W87  {a : (Int × ((List (Int × ((List Int) × Unit))) × Unit))} {r : (List Int)} (h0 : spec_l2Type a = some r) : Meets Try.prog 87 [⟨ty26, 0, a⟩] [⟨ty38, 1, r⟩] [⟨ty26, 0, a⟩] := by
 refine Meets.of_body (fn := Try.f87) Try.func87 rfl rfl rfl fun c hn hfx => ?_
 unfold spec_l2Type at h0
 refine AW.seq (AW.reg hn hfx rfl ?_)
 refine .cons rfl (r_box [] rfl rfl rfl) <| .cons rfl (r_nilS (m := 1) (.inr rfl) ok38) <| .nil ?_
 refine AW.sub [(1, _)] ⟨rfl, trivial⟩ ?_
 refine AW.seq (AW.reg hn hfx rfl ?_)
 refine .cons rfl (r_buildSlice [] (e := tInt) (mc := 0) rfl rfl rfl ok38 rfl rfl rfl) <| .cons rfl (r_assign [] (.inl rfl) rfl rfl) <| .nil ?_
 refine AW.sub [(1, _), (3, _)] ⟨rfl, rfl, trivial⟩ ?_
 refine AW.seq ?_
 refine AW.seq (AW.reg hn hfx rfl ?_)
 refine .cons rfl (r_copy (.inr rfl) rfl rfl) <| .nil ?_
 refine AW.sub [(1, _), (3, _), (4, _)] ⟨rfl, rfl, rfl, trivial⟩ ?_
 obtain ⟨z9, h1, h0⟩ := bindE h0
 refine AW.joinJ [] trivial [(3, .val ty38 1 z9)] ?_ ?_
 ·refine AW.block ?_
  refine AW.loopP h1 [(1, _)] ⟨rfl, trivial⟩ (fun s13 => [(3, .val ty38 1 s13.1), (4, .val tInt 0 s13.2)]) ⟨rfl, rfl, rfl, trivial⟩ fun s13 z16 h2 => ?_
  refine AW.seq ?_
  refine AW.seq (AW.reg hn hfx rfl ?_)
  refine .cons rfl (r_copy (.inl rfl) rfl rfl) <| .cons rfl (r_field rfl rfl rfl rfl ok26 rfl rfl) <| .cons rfl (r_load rfl rfl rfl rfl ok24 rfl) <| .cons rfl (r_len rfl rfl ok24 rfl) ?_
  refine RT.sub [(1, _), (3, _), (4, _), (6, _), (9, _)] ⟨rfl, rfl, rfl, rfl, rfl, trivial⟩ ?_
  refine .cons rfl (r_cmp rfl rfl rfl rfl rfl) <| .nil ?_
  refine AW.sub [(1, _), (3, _), (4, _), (10, _)] ⟨rfl, rfl, rfl, rfl, trivial⟩ ?_
  refine AW.ifP rfl h2 (fun h2 => ?_) (fun h2 => ?_)
  ·refine AW.skip ?_
   refine AW.seq (AW.block ?_)
   refine AW.reg hn hfx rfl ?_
   refine .cons rfl (r_alias rfl rfl) <| .cons rfl (r_field rfl rfl rfl rfl ok26 rfl rfl) <| .cons rfl (r_load rfl rfl rfl rfl ok24 rfl) <| .cons rfl (r_copy (.inl rfl) rfl rfl) ?_
   refine RT.sub [(1, _), (3, _), (4, _), (13, _), (15, _), (16, _)] ⟨rfl, rfl, rfl, rfl, rfl, rfl, trivial⟩ ?_
   obtain ⟨x14, hx14, h2⟩ := bindE h2
   refine .cons rfl (r_index_shared rfl rfl rfl ok24 (idx_nn hx14) (idx_get hx14)) <| .cons rfl (r_field_shared rfl rfl ok72 rfl rfl rfl) <| .cons rfl (r_load_shared rfl rfl ok3) <| .cons rfl (r_buildSlice [] (e := tInt) (mc := 0) rfl rfl rfl ok38 rfl rfl rfl) ?_
   refine RT.sub [(1, _), (3, _), (4, _), (13, _), (20, _)] ⟨rfl, rfl, rfl, rfl, rfl, trivial⟩ ?_
   obtain ⟨x15, hx15, h2⟩ := bindE h2
   refine .cons rfl (r_append [] rfl rfl rfl ok38 rfl (mr := 0) rfl rfl (app_len hx15) (app_eq hx15)) <| .cons rfl (r_assign [] (.inl rfl) rfl rfl) <| .nil ?_
   refine AW.sub [(1, _), (3, _), (4, _)] ⟨rfl, rfl, rfl, trivial⟩ ?_
   refine AW.reg hn hfx rfl ?_
   refine .cons rfl (r_copy (.inl rfl) rfl rfl) <| .cons rfl (r_arith rfl rfl rfl rfl rfl) <| .cons rfl (r_copy (.inr rfl) rfl rfl) <| .nil ?_
   exact ⟨_, (Option.some.inj h2).symm, ⟨rfl, rfl, rfl, trivial⟩⟩
  ·refine AW.exit ?_
   refine ⟨_, (Option.some.inj h2).symm, fun hz => ?_⟩
   subst hz
   exact ⟨rfl, trivial⟩
 ·intro l1 hl1
  refine AW.weaken hl1.sub ?_
  refine AW.seq (AW.reg hn hfx rfl ?_)
  refine .cons rfl (r_alias rfl rfl) <| .cons rfl (r_assign [22] (.inl rfl) rfl rfl) <| .nil ?_
  refine AW.sub [(2, _)] ⟨rfl, trivial⟩ ?_
  refine AW.ret ?_
  obtain rfl := Option.some.inj h0
  exact ⟨_, .tmp rfl rfl .nil, .inl ⟨rfl, rfl⟩, trivial⟩

theorem W64  {a : (Int × ((List (Int × ((List Int) × Unit))) × Unit))} {b : (Int × ((List (Int × ((List Int) × Unit))) × Unit))} {r : Bool} (h0 : spec_l2Same a b = some r) : Meets Try.prog 64 [⟨ty26, 0, a⟩, ⟨ty26, 0, b⟩] [⟨.bool, 0, r⟩] [⟨ty26, 0, a⟩, ⟨ty26, 0, b⟩] := by
 refine Meets.of_body (fn := Try.f64) Try.func64 rfl rfl rfl fun c hn hfx => ?_
 unfold spec_l2Same at h0
 refine AW.seq (AW.reg hn hfx rfl ?_)
 refine .cons rfl (r_box [] rfl rfl rfl) <| .cons rfl (r_box [] rfl rfl rfl) <| .cons rfl (r_copy (.inr rfl) rfl rfl) <| .nil ?_
 refine AW.sub [(2, _), (3, _)] ⟨rfl, rfl, trivial⟩ ?_
 refine AW.seq (AW.draw hmix hn hfx rfl rfl ?_)
 refine .cons rfl (r_load rfl rfl rfl rfl ok26 rfl) rfl rfl rfl ?_
 obtain ⟨x1, hx1, h0⟩ := bindE h0
 refine .cons rfl (r_call rfl rfl rfl Try.func87 rfl rfl (W87 hx1) rfl) rfl rfl rfl <| .cons rfl (r_load rfl rfl rfl rfl ok26 rfl) rfl rfl rfl ?_
 obtain ⟨x2, hx2, h0⟩ := bindE h0
 refine .cons rfl (r_call rfl rfl rfl Try.func87 rfl rfl (W87 hx2) rfl) rfl rfl rfl ?_
 refine DT.eq [(8, _), (7, _), (6, _), (5, _), (2, _), (3, _)] rfl ?_
 obtain ⟨x3, hx3, h0⟩ := bindE h0
 refine .cons rfl (r_call rfl rfl rfl Try.func65 rfl rfl (W65 hx3) rfl) rfl rfl rfl <| .cons rfl (r_copy (.inr rfl) rfl rfl) rfl rfl rfl <| .nil rfl ?_
 refine AW.sub [(4, _)] ⟨rfl, trivial⟩ ?_
 refine AW.ret ?_
 obtain rfl := Option.some.inj h0
 exact ⟨_, .tmp rfl rfl .nil, .inl ⟨rfl, rfl⟩, .inl ⟨rfl, rfl⟩, trivial⟩

theorem W33  {a : (Int × ((List (Int × ((List Int) × Unit))) × Unit))} {b : (Int × ((List (Int × ((List Int) × Unit))) × Unit))} {r : Bool} (h0 : spec_l31Same a b = some r) : Meets Try.prog 33 [⟨ty26, 0, a⟩, ⟨ty26, 0, b⟩] [⟨.bool, 0, r⟩] [⟨ty26, 0, a⟩, ⟨ty26, 0, b⟩] := by
 refine Meets.of_body (fn := Try.f33) Try.func33 rfl rfl rfl fun c hn hfx => ?_
 unfold spec_l31Same at h0
 refine AW.seq (AW.reg hn hfx rfl ?_)
 refine .cons rfl (r_box [] rfl rfl rfl) <| .cons rfl (r_box [] rfl rfl rfl) <| .cons rfl (r_copy (.inr rfl) rfl rfl) <| .nil ?_
 refine AW.sub [(2, _), (3, _)] ⟨rfl, rfl, trivial⟩ ?_
 obtain ⟨z6, h1, h0⟩ := bindE h0
 refine AW.seq (AW.joinJ [] trivial [(4, .val .bool 0 z6)] ?_ ?_)
 ·refine AW.draw hmix hn hfx rfl rfl ?_
  refine .cons rfl (r_field rfl rfl rfl rfl ok26 rfl rfl) rfl rfl rfl <| .cons rfl (r_load rfl rfl rfl rfl ok3 rfl) rfl rfl rfl <| .cons rfl (r_field rfl rfl rfl rfl ok26 rfl rfl) rfl rfl rfl <| .cons rfl (r_load rfl rfl rfl rfl ok3 rfl) rfl rfl rfl ?_
  refine DT.eq [(8, _), (7, _), (6, _), (5, _), (2, _), (3, _)] rfl ?_
  refine .cons rfl (r_cmp rfl rfl rfl rfl rfl) rfl rfl rfl ?_
  refine .ifP (.inl rfl) rfl rfl (fun _ => rfl) rfl h1 (fun h1 => ?_) (fun h1 => ?_)
  ·refine .cons (.inl ⟨_, _, _, rfl, rfl, rfl⟩) (r_load rfl rfl rfl rfl ok26 rfl) rfl rfl rfl <| .cons (.inl ⟨_, _, _, rfl, rfl, rfl⟩) (r_load rfl rfl rfl rfl ok26 rfl) rfl rfl rfl ?_
   refine DT.eq [(12, _), (11, _), (10, _), (9, _), (8, _), (7, _), (6, _), (5, _), (2, _), (3, _)] rfl ?_
   obtain ⟨x7, hx7, h1⟩ := bindE h1
   refine .cons (.inl ⟨_, _, _, rfl, rfl, rfl⟩) (r_call rfl rfl rfl Try.func64 rfl rfl (W64 hx7) rfl) rfl rfl rfl <| .cons rfl (r_pick_true rfl rfl rfl rfl) rfl rfl rfl ?_
   refine .ifP (.inl rfl) rfl rfl (fun _ => rfl) rfl h1 (fun h1 => ?_) (fun h1 => ?_)
   ·refine .cons (.inl ⟨_, _, _, rfl, rfl, rfl⟩) (r_load rfl rfl rfl rfl ok26 rfl) rfl rfl rfl ?_
    refine DT.eq [(16, _), (15, _), (14, _), (13, _), (12, _), (11, _), (10, _), (9, _), (8, _), (7, _), (6, _), (5, _), (2, _), (3, _)] rfl ?_
    obtain ⟨x8, hx8, h1⟩ := bindE h1
    refine .cons (.inl ⟨_, _, _, rfl, rfl, rfl⟩) (r_call rfl rfl rfl Try.func44 rfl rfl (W44 hx8) rfl) rfl rfl rfl <| .cons (.inl ⟨_, _, _, rfl, rfl, rfl⟩) (r_load rfl rfl rfl rfl ok26 rfl) rfl rfl rfl ?_
    obtain ⟨x9, hx9, h1⟩ := bindE h1
    refine .cons (.inl ⟨_, _, _, rfl, rfl, rfl⟩) (r_call rfl rfl rfl Try.func44 rfl rfl (W44 hx9) rfl) rfl rfl rfl ?_
    obtain ⟨x10, hx10, h1⟩ := bindE h1
    refine .cons (.inl ⟨_, _, _, rfl, rfl, rfl⟩) (r_call rfl rfl rfl Try.func65 rfl rfl (W65 hx10) rfl) rfl rfl rfl ?_
    refine DT.eq [(20, _), (19, _), (18, _), (17, _), (16, _), (15, _), (14, _), (13, _), (12, _), (11, _), (10, _), (9, _), (8, _), (7, _), (6, _), (5, _), (2, _), (3, _)] rfl ?_
    refine .cons rfl (r_pick_true rfl rfl rfl rfl) rfl rfl rfl <| .cons rfl (r_copy (.inr rfl) rfl rfl) rfl rfl rfl <| .nil rfl ?_
    obtain rfl := Option.some.inj h1
    exact ⟨rfl, trivial⟩
   ·refine .pass (.inl ⟨_, _, _, rfl, rfl, rfl⟩) rfl rfl ?_
    refine DT.eq [(16, _), (15, _), (14, _), (13, _), (12, _), (11, _), (10, _), (9, _), (8, _), (7, _), (6, _), (5, _), (2, _), (3, _)] rfl ?_
    refine .pass (.inl ⟨_, _, _, rfl, rfl, rfl⟩) rfl rfl <| .pass (.inl ⟨_, _, _, rfl, rfl, rfl⟩) rfl rfl <| .pass (.inl ⟨_, _, _, rfl, rfl, rfl⟩) rfl rfl <| .pass (.inl ⟨_, _, _, rfl, rfl, rfl⟩) rfl rfl ?_
    refine DT.eq [(20, _), (19, _), (18, _), (17, _), (16, _), (15, _), (14, _), (13, _), (12, _), (11, _), (10, _), (9, _), (8, _), (7, _), (6, _), (5, _), (2, _), (3, _)] rfl ?_
    refine .cons rfl (r_pick_false rfl rfl rfl rfl) rfl rfl rfl <| .cons rfl (r_copy (.inr rfl) rfl rfl) rfl rfl rfl <| .nil rfl ?_
    obtain rfl := Option.some.inj h1
    exact ⟨rfl, trivial⟩
  ·refine .pass (.inl ⟨_, _, _, rfl, rfl, rfl⟩) rfl rfl <| .pass (.inl ⟨_, _, _, rfl, rfl, rfl⟩) rfl rfl ?_
   refine DT.eq [(12, _), (11, _), (10, _), (9, _), (8, _), (7, _), (6, _), (5, _), (2, _), (3, _)] rfl ?_
   refine .pass (.inl ⟨_, _, _, rfl, rfl, rfl⟩) rfl rfl <| .cons rfl (r_pick_false rfl rfl rfl rfl) rfl rfl rfl <| .cons rfl (r_copy (.inl rfl) rfl rfl) rfl rfl rfl <| .pass (.inl ⟨_, _, _, rfl, rfl, rfl⟩) rfl rfl ?_
   refine DT.eq [(16, _), (15, _), (14, _), (13, _), (12, _), (11, _), (10, _), (9, _), (8, _), (7, _), (6, _), (5, _), (2, _), (3, _)] rfl ?_
   refine .pass (.inl ⟨_, _, _, rfl, rfl, rfl⟩) rfl rfl <| .pass (.inl ⟨_, _, _, rfl, rfl, rfl⟩) rfl rfl <| .pass (.inl ⟨_, _, _, rfl, rfl, rfl⟩) rfl rfl <| .pass (.inl ⟨_, _, _, rfl, rfl, rfl⟩) rfl rfl ?_
   refine DT.eq [(20, _), (19, _), (18, _), (17, _), (16, _), (15, _), (14, _), (13, _), (12, _), (11, _), (10, _), (9, _), (8, _), (7, _), (6, _), (5, _), (2, _), (3, _)] rfl ?_
   refine .cons rfl (r_pick_false rfl rfl rfl rfl) rfl rfl rfl <| .cons rfl (r_copy (.inr rfl) rfl rfl) rfl rfl rfl <| .nil rfl ?_
   obtain rfl := Option.some.inj h1
   exact ⟨rfl, trivial⟩
 ·intro l1 hl1
  refine AW.weaken hl1.sub ?_
  refine AW.ret ?_
  obtain rfl := Option.some.inj h0
  exact ⟨_, .tmp rfl rfl .nil, .inl ⟨rfl, rfl⟩, .inl ⟨rfl, rfl⟩, trivial⟩

theorem W72  {l_ : (List Int)} {r : (List Int)} (h0 : spec_l1Own l_ = some r) : Meets Try.prog 72 [⟨ty38, 0, l_⟩] [⟨ty38, 1, r⟩] [⟨ty38, 0, l_⟩] := by
 refine Meets.of_body (fn := Try.f72) Try.func72 rfl rfl rfl fun c hn hfx => ?_
 unfold spec_l1Own at h0
 refine AW.seq (AW.reg hn hfx rfl ?_)
 refine .cons rfl (r_nilS (m := 1) (.inr rfl) ok38) <| .nil ?_
 refine AW.sub [(0, _)] ⟨rfl, trivial⟩ ?_
 refine AW.seq (AW.reg hn hfx rfl ?_)
 refine .cons rfl (r_buildSlice [] (e := tInt) (mc := 0) rfl rfl rfl ok38 rfl rfl rfl) <| .cons rfl (r_copy (.inl rfl) rfl rfl) ?_
 obtain ⟨x1, hx1, h0⟩ := bindE h0
 refine .cons rfl (r_append [] rfl rfl rfl ok38 rfl (mr := 0) rfl rfl (app_len hx1) (app_eq hx1)) <| .cons rfl (r_assign [] (.inl rfl) rfl rfl) <| .nil ?_
 refine AW.sub [(2, _)] ⟨rfl, trivial⟩ ?_
 refine AW.ret ?_
 obtain rfl := Option.some.inj h0
 exact ⟨_, .tmp rfl rfl .nil, .inl ⟨rfl, rfl⟩, trivial⟩

theorem W73  {l_ : (List Int)} {n : Int} {r : Bool} (h0 : spec_l1Has l_ n = some r) : Meets Try.prog 73 [⟨ty38, 0, l_⟩, ⟨tInt, 0, n⟩] [⟨.bool, 0, r⟩] [⟨ty38, 0, l_⟩, ⟨tInt, 0, n⟩] := by
 refine Meets.of_body (fn := Try.f73) Try.func73 rfl rfl rfl fun c hn hfx => ?_
 unfold spec_l1Has at h0
 refine AW.seq (AW.reg hn hfx rfl ?_)
 refine .cons rfl (r_copy (.inr rfl) rfl rfl) <| .nil ?_
 refine AW.sub [(0, _), (1, _)] ⟨rfl, rfl, trivial⟩ ?_
 refine AW.seq ?_
 refine AW.seq (AW.reg hn hfx rfl ?_)
 refine .cons rfl (r_copy (.inr rfl) rfl rfl) <| .nil ?_
 refine AW.sub [(0, _), (1, _), (5, _)] ⟨rfl, rfl, rfl, trivial⟩ ?_
 obtain ⟨z7, h1, h0⟩ := bindE h0
 refine AW.joinX z7 [] trivial (fun s6 => []) ?_ ?_
 ·refine AW.block ?_
  refine AW.loopP h1 [(0, _), (1, _)] ⟨rfl, rfl, trivial⟩ (fun s10 => [(5, .val tInt 0 s10)]) ⟨rfl, rfl, rfl, trivial⟩ fun s10 z12 h2 => ?_
  refine AW.seq ?_
  refine AW.seq (AW.reg hn hfx rfl ?_)
  refine .cons rfl (r_copy (.inl rfl) rfl rfl) <| .cons rfl (r_copy (.inl rfl) rfl rfl) <| .cons rfl (r_len rfl rfl ok38 rfl) <| .cons rfl (r_cmp rfl rfl rfl rfl rfl) <| .nil ?_
  refine AW.sub [(0, _), (1, _), (5, _), (9, _)] ⟨rfl, rfl, rfl, rfl, trivial⟩ ?_
  refine AW.ifP rfl h2 (fun h2 => ?_) (fun h2 => ?_)
  ·refine AW.skip ?_
   refine AW.seq (AW.block ?_)
   refine AW.seq (AW.reg hn hfx rfl ?_)
   refine .cons rfl (r_copy (.inl rfl) rfl rfl) <| .cons rfl (r_copy (.inl rfl) rfl rfl) ?_
   obtain ⟨x11, hx11, h2⟩ := bindE h2
   refine .cons rfl (r_index_shared rfl rfl rfl ok38 (idx_nn hx11) (idx_get hx11)) <| .cons rfl (r_load_shared rfl rfl ok3) ?_
   refine RT.sub [(0, _), (1, _), (5, _), (15, _)] ⟨rfl, rfl, rfl, rfl, trivial⟩ ?_
   refine .cons rfl (r_copy (.inl rfl) rfl rfl) <| .cons rfl (r_cmp rfl rfl rfl rfl rfl) <| .nil ?_
   refine AW.sub [(0, _), (1, _), (5, _), (17, _)] ⟨rfl, rfl, rfl, rfl, trivial⟩ ?_
   refine AW.ifP rfl h2 (fun h2 => ?_) (fun h2 => ?_)
   ·refine AW.seq (AW.reg hn hfx rfl ?_)
    refine .cons rfl (r_copy (.inr rfl) rfl rfl) <| .nil ?_
    refine AW.sub [(4, _)] ⟨rfl, trivial⟩ ?_
    refine AW.ret ?_
    refine ⟨_, (Option.some.inj h2).symm, fun hz => ?_⟩
    subst hz
    obtain rfl := Option.some.inj h0
    exact ⟨_, .tmp rfl rfl .nil, .inl ⟨rfl, rfl⟩, .inl ⟨rfl, rfl⟩, trivial⟩
   ·refine AW.skip ?_
    refine AW.reg hn hfx rfl ?_
    refine .cons rfl (r_copy (.inl rfl) rfl rfl) <| .cons rfl (r_arith rfl rfl rfl rfl rfl) <| .cons rfl (r_copy (.inr rfl) rfl rfl) <| .nil ?_
    exact ⟨_, (Option.some.inj h2).symm, ⟨rfl, rfl, rfl, trivial⟩⟩
  ·refine AW.exit ?_
   refine ⟨_, (Option.some.inj h2).symm, fun hz => ?_⟩
   subst hz
   exact ⟨_, rfl, trivial⟩
 ·rintro s6 rfl l1 hl1
  refine AW.weaken hl1.sub ?_
  refine AW.seq (AW.reg hn hfx rfl ?_)
  refine .cons rfl (r_copy (.inr rfl) rfl rfl) <| .nil ?_
  refine AW.sub [(4, _)] ⟨rfl, trivial⟩ ?_
  refine AW.ret ?_
  obtain rfl := Option.some.inj h0
  exact ⟨_, .tmp rfl rfl .nil, .inl ⟨rfl, rfl⟩, .inl ⟨rfl, rfl⟩, trivial⟩

theorem W42 : ∀ (fuel : Nat)  {n : Int} {begun : (List Int)} {r : (List (List Int))} (_ : spec_l31Names fuel n begun = some r), Meets Try.prog 42 [⟨tInt, 0, n⟩, ⟨ty38, 0, begun⟩] [⟨ty31, 2, r⟩] [⟨tInt, 0, n⟩, ⟨ty38, 0, begun⟩] := by
 intro fuel
 induction fuel with
 | zero => intro  n begun r h0; cases h0
 | succ fuel ih =>
 intro  n begun r h0
 refine Meets.of_body (fn := Try.f42) Try.func42 rfl rfl rfl fun c hn hfx => ?_
 rw [spec_l31Names] at h0
 refine AW.seq (AW.reg hn hfx rfl ?_)
 refine .cons rfl (r_nilS (m := 2) (.inr rfl) ok31) <| .nil ?_
 refine AW.sub [(0, _), (1, _)] ⟨rfl, rfl, trivial⟩ ?_
 refine AW.seq ?_
 refine AW.seq (AW.reg hn hfx rfl ?_)
 refine .cons rfl (r_copy (.inl rfl) rfl rfl) <| .cons rfl (r_len rfl rfl ok38 rfl) <| .cons rfl (r_copy (.inl rfl) rfl rfl) <| .cons rfl (r_cmp rfl rfl rfl rfl rfl) <| .nil ?_
 refine AW.sub [(0, _), (1, _), (10, _)] ⟨rfl, rfl, rfl, trivial⟩ ?_
 refine AW.ifP rfl h0 (fun h0 => ?_) (fun h0 => ?_)
 ·refine AW.seq (AW.reg hn hfx rfl ?_)
  refine .cons rfl (r_copy (.inl rfl) rfl rfl) ?_
  obtain ⟨x1, hx1, h0⟩ := bindE h0
  refine .cons rfl (r_call rfl rfl rfl Try.func72 rfl rfl (W72 hx1) rfl) <| .cons rfl (r_buildSlice [] (e := ty38) (mc := 1) rfl rfl rfl ok31 rfl rfl rfl) <| .cons rfl (r_assign [] (.inl rfl) rfl rfl) <| .nil ?_
  refine AW.sub [(4, _)] ⟨rfl, trivial⟩ ?_
  refine AW.ret ?_
  obtain rfl := Option.some.inj h0
  exact ⟨_, .tmp rfl rfl .nil, .inl ⟨rfl, rfl⟩, .inl ⟨rfl, rfl⟩, trivial⟩
 ·refine AW.skip ?_
  refine AW.seq (AW.reg hn hfx rfl ?_)
  refine .cons rfl (r_buildSlice [] (e := ty38) (mc := 1) rfl rfl rfl ok31 rfl rfl rfl) <| .cons rfl (r_assign [] (.inl rfl) rfl rfl) <| .nil ?_
  refine AW.sub [(0, _), (1, _), (5, _)] ⟨rfl, rfl, rfl, trivial⟩ ?_
  refine AW.seq ?_
  refine AW.seq (AW.reg hn hfx rfl ?_)
  refine .cons rfl (r_copy (.inr rfl) rfl rfl) <| .nil ?_
  refine AW.sub [(0, _), (1, _), (5, _), (6, _)] ⟨rfl, rfl, rfl, rfl, trivial⟩ ?_
  obtain ⟨z30, h1, h0⟩ := bindE h0
  refine AW.joinJ [] trivial [(5, .val ty31 2 z30)] ?_ ?_
  ·refine AW.block ?_
   refine AW.loopP h1 [(0, _), (1, _)] ⟨rfl, rfl, trivial⟩ (fun s44 => [(5, .val ty31 2 s44.1), (6, .val tInt 0 s44.2)]) ⟨rfl, rfl, rfl, rfl, trivial⟩ fun s44 z57 h2 => ?_
   refine AW.seq ?_
   refine AW.seq (AW.reg hn hfx rfl ?_)
   refine .cons rfl (r_copy (.inl rfl) rfl rfl) <| .cons rfl (r_copy (.inl rfl) rfl rfl) <| .cons rfl (r_cmp rfl rfl rfl rfl rfl) <| .nil ?_
   refine AW.sub [(0, _), (1, _), (5, _), (6, _), (17, _)] ⟨rfl, rfl, rfl, rfl, rfl, trivial⟩ ?_
   refine AW.ifP rfl h2 (fun h2 => ?_) (fun h2 => ?_)
   ·refine AW.skip ?_
    refine AW.seq (AW.block ?_)
    refine AW.seq (AW.reg hn hfx rfl ?_)
    refine .cons rfl (r_copy (.inl rfl) rfl rfl) <| .cons rfl (r_copy (.inl rfl) rfl rfl) ?_
    obtain ⟨x45, hx45, h2⟩ := bindE h2
    refine .cons rfl (r_call rfl rfl rfl Try.func73 rfl rfl (W73 hx45) rfl) <| .cons rfl (r_not rfl rfl rfl) <| .nil ?_
    refine AW.sub [(0, _), (1, _), (5, _), (6, _), (23, _)] ⟨rfl, rfl, rfl, rfl, rfl, trivial⟩ ?_
    obtain ⟨z51, h3, h2⟩ := bindE h2
    refine AW.joinJ [(0, _), (1, _), (6, _)] ⟨rfl, rfl, rfl, trivial⟩ [(5, .val ty31 2 z51)] ?_ ?_
    ·refine AW.ifP rfl h3 (fun h3 => ?_) (fun h3 => ?_)
     ·refine AW.reg hn hfx rfl ?_
      refine .cons rfl (r_alias rfl rfl) <| .cons rfl (r_copy (.inl rfl) rfl rfl) <| .cons rfl (r_copy (.inl rfl) rfl rfl) ?_
      obtain ⟨x52, hx52, h3⟩ := bindE h3
      refine .cons rfl (r_call rfl rfl rfl Try.func72 rfl rfl (W72 hx52) rfl) ?_
      refine RT.sub [(0, _), (1, _), (5, _), (6, _), (24, _), (25, _), (27, _)] ⟨rfl, rfl, rfl, rfl, rfl, rfl, rfl, trivial⟩ ?_
      refine .cons rfl (r_copy (.inl rfl) rfl rfl) <| .cons rfl (r_buildSlice [] (e := tInt) (mc := 0) rfl rfl rfl ok38 rfl rfl rfl) ?_
      obtain ⟨x53, hx53, h3⟩ := bindE h3
      refine .cons rfl (r_append [] rfl rfl rfl ok38 rfl (mr := 0) rfl rfl (app_len hx53) (app_eq hx53)) ?_
      obtain ⟨x54, hx54, h3⟩ := bindE h3
      refine .cons rfl (r_call rfl rfl rfl Try.func42 rfl rfl (ih hx54) rfl) ?_
      refine RT.sub [(0, _), (1, _), (5, _), (6, _), (24, _), (31, _)] ⟨rfl, rfl, rfl, rfl, rfl, rfl, trivial⟩ ?_
      obtain ⟨x55, hx55, h3⟩ := bindE h3
      refine .cons rfl (r_append [] rfl rfl rfl ok31 rfl (mr := 1) rfl rfl (app_len hx55) (app_eq hx55)) <| .cons rfl (r_assign [] (.inl rfl) rfl rfl) <| .nil ?_
      obtain rfl := Option.some.inj h3
      exact ⟨rfl, rfl, rfl, rfl, trivial⟩
     ·refine AW.skip ?_
      obtain rfl := Option.some.inj h3
      exact ⟨rfl, rfl, rfl, rfl, trivial⟩
    ·intro l1 hl1
     refine AW.weaken hl1.sub ?_
     refine AW.reg hn hfx rfl ?_
     refine .cons rfl (r_copy (.inl rfl) rfl rfl) <| .cons rfl (r_arith rfl rfl rfl rfl rfl) <| .cons rfl (r_copy (.inr rfl) rfl rfl) <| .nil ?_
     exact ⟨_, (Option.some.inj h2).symm, ⟨rfl, rfl, rfl, rfl, trivial⟩⟩
   ·refine AW.exit ?_
    refine ⟨_, (Option.some.inj h2).symm, fun hz => ?_⟩
    subst hz
    exact ⟨rfl, trivial⟩
  ·intro l1 hl1
   refine AW.weaken hl1.sub ?_
   refine AW.seq (AW.reg hn hfx rfl ?_)
   refine .cons rfl (r_alias rfl rfl) <| .cons rfl (r_assign [33] (.inl rfl) rfl rfl) <| .nil ?_
   refine AW.sub [(4, _)] ⟨rfl, trivial⟩ ?_
   refine AW.ret ?_
   obtain rfl := Option.some.inj h0
   exact ⟨_, .tmp rfl rfl .nil, .inl ⟨rfl, rfl⟩, .inl ⟨rfl, rfl⟩, trivial⟩

theorem W88  {a : (List Int)} {b : (List Int)} {r : Bool} (h0 : spec_l5Less a b = some r) : Meets Try.prog 88 [⟨ty38, 0, a⟩, ⟨ty38, 0, b⟩] [⟨.bool, 0, r⟩] [⟨ty38, 0, a⟩, ⟨ty38, 0, b⟩] := by
 refine Meets.of_body (fn := Try.f88) Try.func88 rfl rfl rfl fun c hn hfx => ?_
 unfold spec_l5Less at h0
 refine AW.seq (AW.reg hn hfx rfl ?_)
 refine .cons rfl (r_copy (.inr rfl) rfl rfl) <| .nil ?_
 refine AW.sub [(0, _), (1, _)] ⟨rfl, rfl, trivial⟩ ?_
 refine AW.seq ?_
 refine AW.seq (AW.reg hn hfx rfl ?_)
 refine .cons rfl (r_copy (.inr rfl) rfl rfl) <| .nil ?_
 refine AW.sub [(0, _), (1, _), (5, _)] ⟨rfl, rfl, rfl, trivial⟩ ?_
 obtain ⟨z13, h1, h0⟩ := bindE h0
 refine AW.joinX z13 [] trivial (fun s12 => []) ?_ ?_
 ·refine AW.block ?_
  refine AW.loopP h1 [(0, _), (1, _)] ⟨rfl, rfl, trivial⟩ (fun s19 => [(5, .val tInt 0 s19)]) ⟨rfl, rfl, rfl, trivial⟩ fun s19 z24 h2 => ?_
  refine AW.seq ?_
  refine AW.seq (AW.reg hn hfx rfl ?_)
  refine .cons rfl (r_copy (.inl rfl) rfl rfl) <| .cons rfl (r_copy (.inl rfl) rfl rfl) <| .cons rfl (r_len rfl rfl ok38 rfl) <| .cons rfl (r_cmp rfl rfl rfl rfl rfl) <| .nil ?_
  refine AW.sub [(0, _), (1, _), (5, _), (9, _)] ⟨rfl, rfl, rfl, rfl, trivial⟩ ?_
  refine AW.ifP rfl h2 (fun h2 => ?_) (fun h2 => ?_)
  ·refine AW.skip ?_
   refine AW.seq (AW.block ?_)
   refine AW.seq (AW.draw hmix hn hfx rfl rfl ?_)
   refine .cons rfl (r_copy (.inl rfl) rfl rfl) rfl rfl rfl <| .cons rfl (r_copy (.inl rfl) rfl rfl) rfl rfl rfl ?_
   obtain ⟨x20, hx20, h2⟩ := bindE h2
   refine .cons rfl (r_index_shared rfl rfl rfl ok38 (idx_nn hx20) (idx_get hx20)) rfl rfl rfl <| .cons rfl (r_load_shared rfl rfl ok3) rfl rfl rfl ?_
   refine DT.eq [(15, _), (14, _), (13, _), (12, _), (0, _), (1, _), (5, _), (9, _)] rfl ?_
   refine .cons rfl (r_copy (.inl rfl) rfl rfl) rfl rfl rfl <| .cons rfl (r_copy (.inl rfl) rfl rfl) rfl rfl rfl ?_
   obtain ⟨x21, hx21, h2⟩ := bindE h2
   refine .cons rfl (r_index_shared rfl rfl rfl ok38 (idx_nn hx21) (idx_get hx21)) rfl rfl rfl <| .cons rfl (r_load_shared rfl rfl ok3) rfl rfl rfl ?_
   refine DT.eq [(19, _), (18, _), (17, _), (16, _), (15, _), (14, _), (13, _), (12, _), (0, _), (1, _), (5, _), (9, _)] rfl ?_
   refine .cons rfl (r_cmp rfl rfl rfl rfl rfl) rfl rfl rfl <| .nil rfl ?_
   refine AW.sub [(0, _), (1, _), (5, _), (20, _)] ⟨rfl, rfl, rfl, rfl, trivial⟩ ?_
   refine AW.ifP rfl h2 (fun h2 => ?_) (fun h2 => ?_)
   ·refine AW.seq (AW.draw hmix hn hfx rfl rfl ?_)
    refine .cons rfl (r_copy (.inl rfl) rfl rfl) rfl rfl rfl <| .cons rfl (r_copy (.inl rfl) rfl rfl) rfl rfl rfl ?_
    obtain ⟨x22, hx22, h2⟩ := bindE h2
    refine .cons rfl (r_index_shared rfl rfl rfl ok38 (idx_nn hx22) (idx_get hx22)) rfl rfl rfl <| .cons rfl (r_load_shared rfl rfl ok3) rfl rfl rfl ?_
    refine DT.eq [(24, _), (23, _), (22, _), (21, _), (0, _), (1, _), (5, _), (20, _)] rfl ?_
    refine .cons rfl (r_copy (.inl rfl) rfl rfl) rfl rfl rfl <| .cons rfl (r_copy (.inl rfl) rfl rfl) rfl rfl rfl ?_
    obtain ⟨x23, hx23, h2⟩ := bindE h2
    refine .cons rfl (r_index_shared rfl rfl rfl ok38 (idx_nn hx23) (idx_get hx23)) rfl rfl rfl <| .cons rfl (r_load_shared rfl rfl ok3) rfl rfl rfl ?_
    refine DT.eq [(28, _), (27, _), (26, _), (25, _), (24, _), (23, _), (22, _), (21, _), (0, _), (1, _), (5, _), (20, _)] rfl ?_
    refine .cons rfl (r_cmp rfl rfl rfl rfl rfl) rfl rfl rfl <| .cons rfl (r_copy (.inr rfl) rfl rfl) rfl rfl rfl <| .nil rfl ?_
    refine AW.sub [(4, _)] ⟨rfl, trivial⟩ ?_
    refine AW.ret ?_
    refine ⟨_, (Option.some.inj h2).symm, fun hz => ?_⟩
    subst hz
    obtain rfl := Option.some.inj h0
    exact ⟨_, .tmp rfl rfl .nil, .inl ⟨rfl, rfl⟩, .inl ⟨rfl, rfl⟩, trivial⟩
   ·refine AW.skip ?_
    refine AW.reg hn hfx rfl ?_
    refine .cons rfl (r_copy (.inl rfl) rfl rfl) <| .cons rfl (r_arith rfl rfl rfl rfl rfl) <| .cons rfl (r_copy (.inr rfl) rfl rfl) <| .nil ?_
    exact ⟨_, (Option.some.inj h2).symm, ⟨rfl, rfl, rfl, trivial⟩⟩
  ·refine AW.exit ?_
   refine ⟨_, (Option.some.inj h2).symm, fun hz => ?_⟩
   subst hz
   exact ⟨_, rfl, trivial⟩
 ·rintro s12 rfl l1 hl1
  refine AW.weaken hl1.sub ?_
  refine AW.seq (AW.reg hn hfx rfl ?_)
  refine .cons rfl (r_copy (.inr rfl) rfl rfl) <| .nil ?_
  refine AW.sub [(4, _)] ⟨rfl, trivial⟩ ?_
  refine AW.ret ?_
  obtain rfl := Option.some.inj h0
  exact ⟨_, .tmp rfl rfl .nil, .inl ⟨rfl, rfl⟩, .inl ⟨rfl, rfl⟩, trivial⟩

theorem W66  {a : (Int × ((List (Int × ((List Int) × Unit))) × Unit))} {r : (List Int)} (h0 : spec_l31First a = some r) : Meets Try.prog 66 [⟨ty26, 0, a⟩] [⟨ty38, 0, r⟩] [⟨ty26, 0, a⟩] := by
 refine Meets.of_body (fn := Try.f66) Try.func66 rfl rfl rfl fun c hn hfx => ?_
 unfold spec_l31First at h0
 refine AW.seq (AW.reg hn hfx rfl ?_)
 refine .cons rfl (r_box [] rfl rfl rfl) <| .cons rfl (r_nilS (m := 1) (.inr rfl) ok38) <| .nil ?_
 refine AW.sub [(1, _)] ⟨rfl, trivial⟩ ?_
 refine AW.seq (AW.reg hn hfx rfl ?_)
 refine .cons rfl (r_field rfl rfl rfl rfl ok26 rfl rfl) <| .cons rfl (r_load rfl rfl rfl rfl ok3 rfl) <| .cons rfl (r_buildSlice [] (e := tInt) (mc := 0) rfl rfl rfl ok38 rfl rfl rfl) ?_
 obtain ⟨x1, hx1, h0⟩ := bindE h0
 refine .cons rfl (r_call rfl rfl rfl Try.func42 rfl rfl (W42 30 hx1) rfl) ?_
 refine RT.sub [(1, _), (11, _)] ⟨rfl, rfl, trivial⟩ ?_
 refine .cons rfl (r_assign [] (.inl rfl) rfl rfl) <| .nil ?_
 refine AW.sub [(1, _), (3, _)] ⟨rfl, rfl, trivial⟩ ?_
 refine AW.seq (AW.reg hn hfx rfl ?_)
 refine .cons rfl (r_alias rfl rfl) ?_
 obtain ⟨x2, hx2, h0⟩ := bindE h0
 refine .cons rfl (r_index_own rfl rfl rfl rfl rfl ok31 (idx_nn hx2) (idx_lt hx2)) <| .cons rfl (r_load_ref rfl rfl rfl (sub_app rfl (sub_e (idx_get hx2))) ok38) <| .cons rfl (r_assign [] (.inl rfl) rfl (take_frz (sub_app rfl (sub_e (idx_get hx2))) rfl)) <| .nil ?_
 refine AW.sub [(1, _), (3, _), (4, _)] ⟨rfl, rfl, rfl, trivial⟩ ?_
 refine AW.seq (AW.reg hn hfx rfl ?_)
 refine .cons rfl (r_load rfl rfl rfl rfl ok26 rfl) ?_
 obtain ⟨x3, hx3, h0⟩ := bindE h0
 refine .cons rfl (r_call rfl rfl rfl Try.func44 rfl rfl (W44 hx3) rfl) <| .cons rfl (r_assign [] (.inl rfl) rfl rfl) <| .nil ?_
 refine AW.sub [(1, _), (3, _), (4, _), (5, _)] ⟨rfl, rfl, rfl, rfl, trivial⟩ ?_
 refine AW.seq ?_
 refine AW.seq (AW.reg hn hfx rfl ?_)
 refine .cons rfl (r_copy (.inr rfl) rfl rfl) <| .nil ?_
 refine AW.sub [(1, _), (3, _), (4, _), (5, _), (6, _)] ⟨rfl, rfl, rfl, rfl, rfl, trivial⟩ ?_
 obtain ⟨z26, h1, h0⟩ := bindE h0
 refine AW.joinJ [] trivial [(4, .val ty38 0 z26)] ?_ ?_
 ·refine AW.block ?_
  refine AW.loopP h1 [(1, _), (3, _)] ⟨rfl, rfl, trivial⟩ (fun s37 => [(4, .val ty38 0 s37.1), (5, .val ty38 1 s37.2.1), (6, .val tInt 0 s37.2.2)]) ⟨rfl, rfl, rfl, rfl, rfl, trivial⟩ fun s37 z47 h2 => ?_
  refine AW.seq ?_
  refine AW.seq (AW.reg hn hfx rfl ?_)
  refine .cons rfl (r_copy (.inl rfl) rfl rfl) <| .cons rfl (r_alias rfl rfl) <| .cons rfl (r_len_own rfl rfl rfl rfl ok31 rfl) <| .cons rfl (r_cmp rfl rfl rfl rfl rfl) <| .nil ?_
  refine AW.sub [(1, _), (3, _), (4, _), (5, _), (6, _), (20, _)] ⟨rfl, rfl, rfl, rfl, rfl, rfl, trivial⟩ ?_
  refine AW.ifP rfl h2 (fun h2 => ?_) (fun h2 => ?_)
  ·refine AW.skip ?_
   refine AW.seq (AW.block ?_)
   refine AW.seq (AW.draw hmix hn hfx rfl rfl ?_)
   refine .cons rfl (r_load rfl rfl rfl rfl ok26 rfl) rfl rfl rfl <| .cons rfl (r_aliasF rfl) rfl rfl rfl <| .cons rfl (r_copy (.inl rfl) rfl rfl) rfl rfl rfl ?_
   obtain ⟨x38, hx38, h2⟩ := bindE h2
   refine .cons rfl (r_index_own rfl rfl rfl rfl rfl ok31 (idx_nn hx38) (idx_lt hx38)) rfl rfl rfl ?_
   refine DT.eq [(26, _), (25, _), (24, _), (23, _), (1, _), (3, _), (4, _), (5, _), (6, _), (20, _)] rfl ?_
   refine .cons rfl (r_load rfl rfl rfl (sub_app rfl (sub_e (idx_get hx38))) ok38 rfl) rfl rfl rfl ?_
   obtain ⟨x39, hx39, h2⟩ := bindE h2
   refine .cons rfl (r_call rfl rfl rfl Try.func28 rfl rfl (W28 hx39) rfl) rfl rfl rfl ?_
   obtain ⟨x40, hx40, h2⟩ := bindE h2
   refine .cons rfl (r_call rfl rfl rfl Try.func44 rfl rfl (W44 hx40) rfl) rfl rfl rfl <| .cons rfl (r_assign [] (.inl rfl) rfl rfl) rfl rfl rfl <| .nil rfl ?_
   refine AW.sub [(1, _), (3, _), (4, _), (5, _), (6, _), (7, _)] ⟨rfl, rfl, rfl, rfl, rfl, rfl, trivial⟩ ?_
   refine AW.seq (AW.reg hn hfx rfl ?_)
   refine .cons rfl (r_alias rfl rfl) <| .cons rfl (r_alias rfl rfl) ?_
   obtain ⟨x41, hx41, h2⟩ := bindE h2
   refine .cons rfl (r_call rfl rfl rfl Try.func88 rfl rfl (W88 hx41) rfl) <| .nil ?_
   refine AW.sub [(1, _), (3, _), (4, _), (5, _), (6, _), (7, _), (32, _)] ⟨rfl, rfl, rfl, rfl, rfl, rfl, rfl, trivial⟩ ?_
   obtain ⟨z44, h3, h2⟩ := bindE h2
   refine AW.joinJ [(1, _), (3, _), (6, _)] ⟨rfl, rfl, rfl, trivial⟩ [(4, .val ty38 0 z44.1), (5, .val ty38 1 z44.2)] ?_ ?_
   ·refine AW.ifP rfl h3 (fun h3 => ?_) (fun h3 => ?_)
    ·refine AW.seq (AW.reg hn hfx rfl ?_)
     refine .cons rfl (r_alias rfl rfl) <| .cons rfl (r_copy (.inl rfl) rfl rfl) ?_
     obtain ⟨x45, hx45, h3⟩ := bindE h3
     refine .cons rfl (r_index_own rfl rfl rfl rfl rfl ok31 (idx_nn hx45) (idx_lt hx45)) <| .cons rfl (r_load rfl rfl rfl (sub_app rfl (sub_e (idx_get hx45))) ok38 rfl) ?_
     refine RT.sub [(1, _), (3, _), (4, _), (6, _), (7, _), (36, _)] ⟨rfl, rfl, rfl, rfl, rfl, rfl, trivial⟩ ?_
     refine .cons rfl (r_copy (.inr rfl) rfl rfl) <| .nil ?_
     refine AW.sub [(1, _), (3, _), (4, _), (6, _), (7, _)] ⟨rfl, rfl, rfl, rfl, rfl, trivial⟩ ?_
     refine AW.reg hn hfx rfl ?_
     refine .cons rfl (r_alias rfl rfl) <| .cons rfl (r_assign [37] (.inl rfl) rfl rfl) <| .nil ?_
     obtain rfl := Option.some.inj h3
     exact ⟨rfl, rfl, rfl, rfl, rfl, trivial⟩
    ·refine AW.skip ?_
     obtain rfl := Option.some.inj h3
     exact ⟨rfl, rfl, rfl, rfl, rfl, trivial⟩
   ·intro l1 hl1
    refine AW.weaken hl1.sub ?_
    refine AW.reg hn hfx rfl ?_
    refine .cons rfl (r_copy (.inl rfl) rfl rfl) <| .cons rfl (r_arith rfl rfl rfl rfl rfl) <| .cons rfl (r_copy (.inr rfl) rfl rfl) <| .nil ?_
    exact ⟨_, (Option.some.inj h2).symm, ⟨rfl, rfl, rfl, rfl, rfl, trivial⟩⟩
  ·refine AW.exit ?_
   refine ⟨_, (Option.some.inj h2).symm, fun hz => ?_⟩
   subst hz
   exact ⟨rfl, trivial⟩
 ·intro l1 hl1
  refine AW.weaken hl1.sub ?_
  refine AW.seq (AW.reg hn hfx rfl ?_)
  refine .cons rfl (r_copy (.inl rfl) rfl rfl) <| .cons rfl (r_copy (.inr rfl) rfl rfl) <| .nil ?_
  refine AW.sub [(2, _)] ⟨rfl, trivial⟩ ?_
  refine AW.ret ?_
  obtain rfl := Option.some.inj h0
  exact ⟨_, .tmp rfl rfl .nil, .inl ⟨rfl, rfl⟩, trivial⟩

theorem W34  {a : (Int × ((List (Int × ((List Int) × Unit))) × Unit))} {r : (Int × ((List (Int × ((List Int) × Unit))) × Unit))} (h0 : spec_l31Form a = some r) : Meets Try.prog 34 [⟨ty26, 0, a⟩] [⟨ty26, 2, r⟩] [⟨ty26, 0, a⟩] := by
 refine Meets.of_body (fn := Try.f34) Try.func34 rfl rfl rfl fun c hn hfx => ?_
 unfold spec_l31Form at h0
 refine AW.seq (AW.reg hn hfx rfl ?_)
 refine .cons rfl (r_box [] rfl rfl rfl) <| .cons rfl (r_alloc rfl ok26 rfl) <| .nil ?_
 refine AW.sub [(1, _), (2, _)] ⟨rfl, rfl, trivial⟩ ?_
 refine AW.seq (AW.draw hmix hn hfx rfl rfl ?_)
 refine .cons rfl (r_load rfl rfl rfl rfl ok26 rfl) rfl rfl rfl <| .cons rfl (r_load rfl rfl rfl rfl ok26 rfl) rfl rfl rfl ?_
 obtain ⟨x1, hx1, h0⟩ := bindE h0
 refine .cons rfl (r_callG none rfl rfl Try.func66 rfl rfl (W66 hx1) ⟨rfl, trivial⟩ rfl) rfl rfl rfl ?_
 obtain ⟨x2, hx2, h0⟩ := bindE h0
 refine .cons rfl (r_call rfl rfl rfl Try.func28 rfl rfl (W28 hx2) rfl) rfl rfl rfl ?_
 refine DT.eq [(6, _), (5, _), (4, _), (3, _), (1, _), (2, _)] rfl ?_
 refine .cons rfl (r_store [] rfl rfl rfl rfl rfl rfl rfl rfl ok26 rfl rfl rfl rfl) rfl rfl rfl <| .nil rfl ?_
 refine AW.sub [(2, _)] ⟨rfl, trivial⟩ ?_
 refine AW.ret ?_
 obtain rfl := Option.some.inj h0
 exact ⟨_, .cell rfl ok26 .nil, .inl ⟨rfl, rfl⟩, trivial⟩

theorem W7  {a : (Int × ((List (Int × ((List Int) × Unit))) × Unit))} {b : (Int × ((List (Int × ((List Int) × Unit))) × Unit))} {r : (Bool × Bool)} (h0 : spec_HaveSameForm a b = some r) : Meets Try.prog 7 [⟨ty26, 0, a⟩, ⟨ty26, 0, b⟩] [⟨.bool, 0, r.1⟩, ⟨.bool, 0, r.2⟩] [⟨ty26, 0, a⟩, ⟨ty26, 0, b⟩] := by
 refine Meets.of_body (fn := Try.f7) Try.func7 rfl rfl rfl fun c hn hfx => ?_
 unfold spec_HaveSameForm at h0
 refine AW.seq (AW.reg hn hfx rfl ?_)
 refine .cons rfl (r_box [] rfl rfl rfl) <| .cons rfl (r_box [] rfl rfl rfl) <| .cons rfl (r_copy (.inr rfl) rfl rfl) <| .cons rfl (r_copy (.inr rfl) rfl rfl) <| .nil ?_
 refine AW.sub [(2, _), (3, _)] ⟨rfl, rfl, trivial⟩ ?_
 refine AW.seq ?_
 obtain ⟨z4, h1, h0⟩ := bindE h0
 refine AW.seq (AW.joinJ [(2, _), (3, _)] ⟨rfl, rfl, trivial⟩ [(13, .val .bool 0 z4)] ?_ ?_)
 ·refine AW.reg hn hfx rfl ?_
  refine .cons rfl (r_load rfl rfl rfl rfl ok26 rfl) ?_
  obtain ⟨x5, hx5, h1⟩ := bindE h1
  refine .cons rfl (r_call rfl rfl rfl Try.func32 rfl rfl (W32 hx5) rfl) <| .cons rfl (r_not rfl rfl rfl) ?_
  refine .ifP (.inl rfl) rfl rfl h1 (fun h1 => ?_) (fun h1 => ?_)
  ·refine RT.sub [(2, _), (3, _), (9, _)] ⟨rfl, rfl, rfl, trivial⟩ ?_
   refine .pass (.inl ⟨_, _, _, rfl, rfl, rfl⟩) <| .pass (.inl ⟨_, _, _, rfl, rfl, rfl⟩) <| .pass (.inl ⟨_, _, _, rfl, rfl, rfl⟩) <| .cons rfl (r_pick_true rfl rfl rfl rfl) <| .nil ?_
   obtain rfl := Option.some.inj h1
   exact ⟨rfl, rfl, rfl, trivial⟩
  ·refine RT.sub [(2, _), (3, _), (9, _)] ⟨rfl, rfl, rfl, trivial⟩ ?_
   refine .cons (.inl ⟨_, _, _, rfl, rfl, rfl⟩) (r_load rfl rfl rfl rfl ok26 rfl) ?_
   obtain ⟨x6, hx6, h1⟩ := bindE h1
   refine .cons (.inl ⟨_, _, _, rfl, rfl, rfl⟩) (r_call rfl rfl rfl Try.func32 rfl rfl (W32 hx6) rfl) <| .cons (.inl ⟨_, _, _, rfl, rfl, rfl⟩) (r_not rfl rfl rfl) <| .cons rfl (r_pick_false rfl rfl rfl rfl) <| .nil ?_
   obtain rfl := Option.some.inj h1
   exact ⟨rfl, rfl, rfl, trivial⟩
 ·intro l1 hl1
  refine AW.weaken hl1.sub ?_
  refine AW.ifP rfl h0 (fun h0 => ?_) (fun h0 => ?_)
  ·refine AW.seq (AW.reg hn hfx rfl ?_)
   refine .cons rfl (r_copy (.inr rfl) rfl rfl) <| .cons rfl (r_copy (.inr rfl) rfl rfl) <| .nil ?_
   refine AW.sub [(4, _), (5, _)] ⟨rfl, rfl, trivial⟩ ?_
   refine AW.ret ?_
   obtain rfl := Option.some.inj h0
   exact ⟨_, .tmp rfl rfl (.tmp rfl rfl .nil), .inl ⟨rfl, rfl⟩, .inl ⟨rfl, rfl⟩, trivial⟩
  ·refine AW.skip ?_
   refine AW.seq (AW.draw hmix hn hfx rfl rfl ?_)
   refine .cons rfl (r_load rfl rfl rfl rfl ok26 rfl) rfl rfl rfl ?_
   obtain ⟨x8, hx8, h0⟩ := bindE h0
   refine .cons rfl (r_call rfl rfl rfl Try.func34 rfl rfl (W34 hx8) rfl) rfl rfl rfl <| .cons rfl (r_load rfl rfl rfl rfl ok26 rfl) rfl rfl rfl ?_
   obtain ⟨x9, hx9, h0⟩ := bindE h0
   refine .cons rfl (r_call rfl rfl rfl Try.func34 rfl rfl (W34 hx9) rfl) rfl rfl rfl ?_
   refine DT.eq [(17, _), (16, _), (15, _), (14, _), (13, _), (2, _), (3, _)] rfl ?_
   obtain ⟨x10, hx10, h0⟩ := bindE h0
   refine .cons rfl (r_call rfl rfl rfl Try.func33 rfl rfl (W33 hx10) rfl) rfl rfl rfl <| .cons rfl (r_copy (.inr rfl) rfl rfl) rfl rfl rfl <| .cons rfl (r_copy (.inr rfl) rfl rfl) rfl rfl rfl <| .nil rfl ?_
   refine AW.sub [(4, _), (5, _)] ⟨rfl, rfl, trivial⟩ ?_
   refine AW.ret ?_
   obtain rfl := Option.some.inj h0
   exact ⟨_, .tmp rfl rfl (.tmp rfl rfl .nil), .inl ⟨rfl, rfl⟩, .inl ⟨rfl, rfl⟩, trivial⟩

theorem W37  {a : (Int × ((List (Int × ((List Int) × Unit))) × Unit))} {r : (List Int)} (h0 : impl_typeOf a = some r) : Meets Try.prog 37 [⟨ty26, 0, a⟩] [⟨ty38, 1, r⟩] [⟨ty26, 0, a⟩] := by
 refine Meets.of_body (fn := Try.f37) Try.func37 rfl rfl rfl fun c hn hfx => ?_
 unfold impl_typeOf at h0
 refine AW.seq (AW.reg hn hfx rfl ?_)
 refine .cons rfl (r_box [] rfl rfl rfl) <| .cons rfl (r_nilS (m := 1) (.inr rfl) ok38) <| .nil ?_
 refine AW.sub [(1, _)] ⟨rfl, trivial⟩ ?_
 refine AW.seq (AW.reg hn hfx rfl ?_)
 refine .cons rfl (r_buildSlice [] (e := tInt) (mc := 0) rfl rfl rfl ok38 rfl rfl rfl) <| .cons rfl (r_assign [] (.inl rfl) rfl rfl) <| .nil ?_
 refine AW.sub [(1, _), (3, _)] ⟨rfl, rfl, trivial⟩ ?_
 refine AW.seq ?_
 refine AW.seq (AW.reg hn hfx rfl ?_)
 refine .cons rfl (r_field rfl rfl rfl rfl ok26 rfl rfl) <| .cons rfl (r_load rfl rfl rfl rfl ok24 rfl) <| .cons rfl (r_len rfl rfl ok24 rfl) <| .cons rfl (r_copy (.inl rfl) rfl rfl) <| .nil ?_
 refine AW.sub [(3, _), (8, _), (9, _), (10, _)] ⟨rfl, rfl, rfl, rfl, trivial⟩ ?_
 obtain ⟨z9, h1, h0⟩ := bindE h0
 refine AW.joinJ [] trivial [(3, .val ty38 1 z9)] ?_ ?_
 ·refine AW.block ?_
  refine AW.loopP h1 [(8, _), (9, _)] ⟨rfl, rfl, trivial⟩ (fun s13 => [(3, .val ty38 1 s13.1), (10, .val tInt 0 s13.2)]) ⟨rfl, rfl, rfl, rfl, trivial⟩ fun s13 z16 h2 => ?_
  refine AW.seq (AW.reg hn hfx rfl ?_)
  refine .cons rfl (r_cmp rfl rfl rfl rfl rfl) <| .nil ?_
  refine AW.sub [(3, _), (8, _), (9, _), (10, _), (11, _)] ⟨rfl, rfl, rfl, rfl, rfl, trivial⟩ ?_
  refine AW.seq (AW.ifP rfl h2 (fun h2 => ?_) (fun h2 => ?_))
  ·refine AW.skip ?_
   refine AW.seq (AW.block ?_)
   refine AW.seq (AW.reg hn hfx rfl ?_)
   obtain ⟨x14, hx14, h2⟩ := bindE h2
   refine .cons rfl (r_index_shared rfl rfl rfl ok24 (idx_nn hx14) (idx_get hx14)) <| .cons rfl (r_load_shared rfl rfl ok72) <| .cons rfl (SR.lower 1 (r_alloc rfl ok72 rfl)) <| .cons rfl (r_store [] rfl rfl rfl rfl rfl rfl rfl rfl ok72 rfl rfl rfl rfl) <| .nil ?_
   refine AW.sub [(3, _), (5, _), (8, _), (9, _), (10, _)] ⟨rfl, rfl, rfl, rfl, rfl, trivial⟩ ?_
   refine AW.reg hn hfx rfl ?_
   refine .cons rfl (r_alias rfl rfl) <| .cons rfl (r_field rfl rfl rfl rfl ok72 rfl rfl) <| .cons rfl (r_load rfl rfl rfl rfl ok3 rfl) <| .cons rfl (r_buildSlice [] (e := tInt) (mc := 0) rfl rfl rfl ok38 rfl rfl rfl) ?_
   refine RT.sub [(3, _), (8, _), (9, _), (10, _), (14, _), (17, _)] ⟨rfl, rfl, rfl, rfl, rfl, rfl, trivial⟩ ?_
   obtain ⟨x15, hx15, h2⟩ := bindE h2
   refine .cons rfl (r_append [] rfl rfl rfl ok38 rfl (mr := 0) rfl rfl (app_len hx15) (app_eq hx15)) <| .cons rfl (r_assign [] (.inl rfl) rfl rfl) <| .nil ?_
   refine AW.sub [(3, _), (8, _), (9, _), (10, _)] ⟨rfl, rfl, rfl, rfl, trivial⟩ ?_
   refine AW.reg hn hfx rfl ?_
   refine .cons rfl (r_arith rfl rfl rfl rfl rfl) <| .cons rfl (r_copy (.inl rfl) rfl rfl) <| .nil ?_
   exact ⟨_, (Option.some.inj h2).symm, ⟨rfl, rfl, rfl, rfl, trivial⟩⟩
  ·refine AW.exit ?_
   refine ⟨_, (Option.some.inj h2).symm, fun hz => ?_⟩
   subst hz
   exact ⟨rfl, trivial⟩
 ·intro l1 hl1
  refine AW.weaken hl1.sub ?_
  refine AW.seq (AW.reg hn hfx rfl ?_)
  refine .cons rfl (r_alias rfl rfl) <| .cons rfl (r_assign [20] (.inl rfl) rfl rfl) <| .nil ?_
  refine AW.sub [(2, _)] ⟨rfl, trivial⟩ ?_
  refine AW.ret ?_
  obtain rfl := Option.some.inj h0
  exact ⟨_, .tmp rfl rfl .nil, .inl ⟨rfl, rfl⟩, trivial⟩

theorem W8  {a : (Int × ((List (Int × ((List Int) × Unit))) × Unit))} {b : (Int × ((List (Int × ((List Int) × Unit))) × Unit))} {r : (Bool × Bool)} (h0 : impl_SameType a b = some r) : Meets Try.prog 8 [⟨ty26, 0, a⟩, ⟨ty26, 0, b⟩] [⟨.bool, 0, r.1⟩, ⟨.bool, 0, r.2⟩] [⟨ty26, 0, a⟩, ⟨ty26, 0, b⟩] := by
 refine Meets.of_body (fn := Try.f8) Try.func8 rfl rfl rfl fun c hn hfx => ?_
 unfold impl_SameType at h0
 refine AW.seq (AW.reg hn hfx rfl ?_)
 refine .cons rfl (r_box [] rfl rfl rfl) <| .cons rfl (r_box [] rfl rfl rfl) <| .cons rfl (r_copy (.inr rfl) rfl rfl) <| .cons rfl (r_copy (.inr rfl) rfl rfl) <| .nil ?_
 refine AW.sub [(2, _), (3, _)] ⟨rfl, rfl, trivial⟩ ?_
 refine AW.seq ?_
 obtain ⟨z4, h1, h0⟩ := bindE h0
 refine AW.seq (AW.joinJ [(2, _), (3, _)] ⟨rfl, rfl, trivial⟩ [(13, .val .bool 0 z4)] ?_ ?_)
 ·refine AW.reg hn hfx rfl ?_
  refine .cons rfl (r_load rfl rfl rfl rfl ok26 rfl) ?_
  obtain ⟨x5, hx5, h1⟩ := bindE h1
  refine .cons rfl (r_call rfl rfl rfl Try.func35 rfl rfl (W35 hx5) rfl) <| .cons rfl (r_not rfl rfl rfl) ?_
  refine .ifP (.inl rfl) rfl rfl h1 (fun h1 => ?_) (fun h1 => ?_)
  ·refine RT.sub [(2, _), (3, _), (9, _)] ⟨rfl, rfl, rfl, trivial⟩ ?_
   refine .pass (.inl ⟨_, _, _, rfl, rfl, rfl⟩) <| .pass (.inl ⟨_, _, _, rfl, rfl, rfl⟩) <| .pass (.inl ⟨_, _, _, rfl, rfl, rfl⟩) <| .cons rfl (r_pick_true rfl rfl rfl rfl) <| .nil ?_
   obtain rfl := Option.some.inj h1
   exact ⟨rfl, rfl, rfl, trivial⟩
  ·refine RT.sub [(2, _), (3, _), (9, _)] ⟨rfl, rfl, rfl, trivial⟩ ?_
   refine .cons (.inl ⟨_, _, _, rfl, rfl, rfl⟩) (r_load rfl rfl rfl rfl ok26 rfl) ?_
   obtain ⟨x6, hx6, h1⟩ := bindE h1
   refine .cons (.inl ⟨_, _, _, rfl, rfl, rfl⟩) (r_call rfl rfl rfl Try.func35 rfl rfl (W35 hx6) rfl) <| .cons (.inl ⟨_, _, _, rfl, rfl, rfl⟩) (r_not rfl rfl rfl) <| .cons rfl (r_pick_false rfl rfl rfl rfl) <| .nil ?_
   obtain rfl := Option.some.inj h1
   exact ⟨rfl, rfl, rfl, trivial⟩
 ·intro l1 hl1
  refine AW.weaken hl1.sub ?_
  refine AW.ifP rfl h0 (fun h0 => ?_) (fun h0 => ?_)
  ·refine AW.seq (AW.reg hn hfx rfl ?_)
   refine .cons rfl (r_copy (.inr rfl) rfl rfl) <| .cons rfl (r_copy (.inr rfl) rfl rfl) <| .nil ?_
   refine AW.sub [(4, _), (5, _)] ⟨rfl, rfl, trivial⟩ ?_
   refine AW.ret ?_
   obtain rfl := Option.some.inj h0
   exact ⟨_, .tmp rfl rfl (.tmp rfl rfl .nil), .inl ⟨rfl, rfl⟩, .inl ⟨rfl, rfl⟩, trivial⟩
  ·refine AW.skip ?_
   refine AW.seq (AW.draw hmix hn hfx rfl rfl ?_)
   refine .cons rfl (r_load rfl rfl rfl rfl ok26 rfl) rfl rfl rfl ?_
   obtain ⟨x8, hx8, h0⟩ := bindE h0
   refine .cons rfl (r_call rfl rfl rfl Try.func37 rfl rfl (W37 hx8) rfl) rfl rfl rfl <| .cons rfl (r_load rfl rfl rfl rfl ok26 rfl) rfl rfl rfl ?_
   obtain ⟨x9, hx9, h0⟩ := bindE h0
   refine .cons rfl (r_call rfl rfl rfl Try.func37 rfl rfl (W37 hx9) rfl) rfl rfl rfl ?_
   refine DT.eq [(17, _), (16, _), (15, _), (14, _), (13, _), (2, _), (3, _)] rfl ?_
   obtain ⟨x10, hx10, h0⟩ := bindE h0
   refine .cons rfl (r_call rfl rfl rfl Try.func36 rfl rfl (W36 hx10) rfl) rfl rfl rfl <| .cons rfl (r_copy (.inr rfl) rfl rfl) rfl rfl rfl <| .cons rfl (r_copy (.inr rfl) rfl rfl) rfl rfl rfl <| .nil rfl ?_
   refine AW.sub [(4, _), (5, _)] ⟨rfl, rfl, trivial⟩ ?_
   refine AW.ret ?_
   obtain rfl := Option.some.inj h0
   exact ⟨_, .tmp rfl rfl (.tmp rfl rfl .nil), .inl ⟨rfl, rfl⟩, .inl ⟨rfl, rfl⟩, trivial⟩

theorem W68  {a : (Int × ((List (Int × ((List Int) × Unit))) × Unit))} {b : (Int × ((List (Int × ((List Int) × Unit))) × Unit))} {r : Bool} (h0 : impl_alike a b = some r) : Meets Try.prog 68 [⟨ty26, 0, a⟩, ⟨ty26, 0, b⟩] [⟨.bool, 0, r⟩] [⟨ty26, 0, a⟩, ⟨ty26, 0, b⟩] := by
 refine Meets.of_body (fn := Try.f68) Try.func68 rfl rfl rfl fun c hn hfx => ?_
 unfold impl_alike at h0
 refine AW.seq (AW.reg hn hfx rfl ?_)
 refine .cons rfl (r_box [] rfl rfl rfl) <| .cons rfl (r_box [] rfl rfl rfl) <| .cons rfl (r_copy (.inr rfl) rfl rfl) <| .nil ?_
 refine AW.sub [(2, _), (3, _)] ⟨rfl, rfl, trivial⟩ ?_
 refine AW.seq (AW.reg hn hfx rfl ?_)
 refine .cons rfl (r_load rfl rfl rfl rfl ok26 rfl) <| .cons rfl (r_load rfl rfl rfl rfl ok26 rfl) ?_
 obtain ⟨x1, hx1, h0⟩ := bindE h0
 refine .cons rfl (r_call rfl rfl rfl Try.func8 rfl rfl (W8 hx1) rfl) <| .cons rfl (r_moveTup (.inl rfl) rfl) ?_
 refine RT.sub [(7, _)] ⟨rfl, trivial⟩ ?_
 refine .cons rfl (r_extract_copy rfl rfl rfl rfl) <| .cons rfl (r_extract_copy rfl rfl rfl rfl) <| .cons rfl (r_copy (.inr rfl) rfl rfl) <| .cons rfl (r_copy (.inr rfl) rfl rfl) <| .nil ?_
 refine AW.sub [(5, _), (6, _)] ⟨rfl, rfl, trivial⟩ ?_
 obtain ⟨z3, h1, h0⟩ := bindE h0
 refine AW.seq (AW.joinJ [] trivial [(4, .val .bool 0 z3)] ?_ ?_)
 ·refine AW.reg hn hfx rfl ?_
  refine .cons rfl (r_copy (.inl rfl) rfl rfl) ?_
  refine .ifP (.inl rfl) rfl rfl h1 (fun h1 => ?_) (fun h1 => ?_)
  ·refine .cons (.inl ⟨_, _, _, rfl, rfl, rfl⟩) (r_copy (.inl rfl) rfl rfl) <| .cons rfl (r_pick_true rfl rfl rfl rfl) ?_
   refine RT.sub [(16, _)] ⟨rfl, trivial⟩ ?_
   refine .cons rfl (r_copy (.inr rfl) rfl rfl) <| .nil ?_
   obtain rfl := Option.some.inj h1
   exact ⟨rfl, trivial⟩
  ·refine .pass (.inl ⟨_, _, _, rfl, rfl, rfl⟩) <| .cons rfl (r_pick_false rfl rfl rfl rfl) ?_
   refine RT.sub [(16, _)] ⟨rfl, trivial⟩ ?_
   refine .cons rfl (r_copy (.inr rfl) rfl rfl) <| .nil ?_
   obtain rfl := Option.some.inj h1
   exact ⟨rfl, trivial⟩
 ·intro l1 hl1
  refine AW.weaken hl1.sub ?_
  refine AW.ret ?_
  obtain rfl := Option.some.inj h0
  exact ⟨_, .tmp rfl rfl .nil, .inl ⟨rfl, rfl⟩, .inl ⟨rfl, rfl⟩, trivial⟩

end Go.Proofs.Ytoaajjhcdbbfdaa
namespace Go.Proofs.Ytoaajjhcdbbfdaa
open Go.Abs Go.Pure
-- theorem hmix : Try.prog.follows .mixedOrders = true := by kernel_rfl
theorem W38  {a : (Int × ((List (Int × ((List Int) × Unit))) × Unit))} {b : (Int × ((List (Int × ((List Int) × Unit))) × Unit))} {r : Bool} (h0 : impl_areAlike a b = some r) : Meets Try.prog 38 [⟨ty26, 0, a⟩, ⟨ty26, 0, b⟩] [⟨.bool, 0, r⟩] [⟨ty26, 0, a⟩, ⟨ty26, 0, b⟩] := by
 refine Meets.of_body (fn := Try.f38) Try.func38 rfl rfl rfl fun c hn hfx => ?_
 unfold impl_areAlike at h0
 refine AW.seq (AW.reg hn hfx rfl ?_)
 refine .cons rfl (r_box [] rfl rfl rfl) <| .cons rfl (r_box [] rfl rfl rfl) <| .cons rfl (r_copy (.inr rfl) rfl rfl) <| .nil ?_
 refine AW.sub [(2, _), (3, _)] ⟨rfl, rfl, trivial⟩ ?_
 obtain ⟨z5, h1, h0⟩ := bindE h0
 refine AW.seq (AW.joinJ [] trivial [(4, .val .bool 0 z5)] ?_ ?_)
 ·refine AW.reg hn hfx rfl ?_
  refine .cons rfl (r_load rfl rfl rfl rfl ok26 rfl) ?_
  obtain ⟨x6, hx6, h1⟩ := bindE h1
  refine .cons rfl (r_call rfl rfl rfl Try.func35 rfl rfl (W35 hx6) rfl) ?_
  refine .ifP (.inl rfl) rfl rfl h1 (fun h1 => ?_) (fun h1 => ?_)
  ·refine .cons (.inl ⟨_, _, _, rfl, rfl, rfl⟩) (r_load rfl rfl rfl rfl ok26 rfl) ?_
   refine RT.sub [(2, _), (3, _), (7, _), (8, _)] ⟨rfl, rfl, rfl, rfl, trivial⟩ ?_
   obtain ⟨x7, hx7, h1⟩ := bindE h1
   refine .cons (.inl ⟨_, _, _, rfl, rfl, rfl⟩) (r_call rfl rfl rfl Try.func35 rfl rfl (W35 hx7) rfl) <| .cons rfl (r_pick_true rfl rfl rfl rfl) ?_
   refine .ifP (.inl rfl) rfl rfl h1 (fun h1 => ?_) (fun h1 => ?_)
   ·refine .cons (.inl ⟨_, _, _, rfl, rfl, rfl⟩) (r_load rfl rfl rfl rfl ok26 rfl) ?_
    refine RT.sub [(3, _), (11, _), (12, _)] ⟨rfl, rfl, rfl, trivial⟩ ?_
    refine .cons (.inl ⟨_, _, _, rfl, rfl, rfl⟩) (r_load rfl rfl rfl rfl ok26 rfl) ?_
    obtain ⟨x8, hx8, h1⟩ := bindE h1
    refine .cons (.inl ⟨_, _, _, rfl, rfl, rfl⟩) (r_call rfl rfl rfl Try.func68 rfl rfl (W68 hx8) rfl) <| .cons rfl (r_pick_true rfl rfl rfl rfl) <| .cons rfl (r_copy (.inr rfl) rfl rfl) <| .nil ?_
    obtain rfl := Option.some.inj h1
    exact ⟨rfl, trivial⟩
   ·refine .pass (.inl ⟨_, _, _, rfl, rfl, rfl⟩) ?_
    refine RT.sub [(3, _), (11, _), (12, _)] ⟨rfl, rfl, rfl, trivial⟩ ?_
    refine .pass (.inl ⟨_, _, _, rfl, rfl, rfl⟩) <| .pass (.inl ⟨_, _, _, rfl, rfl, rfl⟩) <| .cons rfl (r_pick_false rfl rfl rfl rfl) <| .cons rfl (r_copy (.inr rfl) rfl rfl) <| .nil ?_
    obtain rfl := Option.some.inj h1
    exact ⟨rfl, trivial⟩
  ·refine .pass (.inl ⟨_, _, _, rfl, rfl, rfl⟩) ?_
   refine RT.sub [(2, _), (3, _), (7, _), (8, _)] ⟨rfl, rfl, rfl, rfl, trivial⟩ ?_
   refine .pass (.inl ⟨_, _, _, rfl, rfl, rfl⟩) <| .cons rfl (r_pick_false rfl rfl rfl rfl) <| .cons rfl (r_copy (.inl rfl) rfl rfl) <| .pass (.inl ⟨_, _, _, rfl, rfl, rfl⟩) ?_
   refine RT.sub [(3, _), (11, _), (12, _)] ⟨rfl, rfl, rfl, trivial⟩ ?_
   refine .pass (.inl ⟨_, _, _, rfl, rfl, rfl⟩) <| .pass (.inl ⟨_, _, _, rfl, rfl, rfl⟩) <| .cons rfl (r_pick_false rfl rfl rfl rfl) <| .cons rfl (r_copy (.inr rfl) rfl rfl) <| .nil ?_
   obtain rfl := Option.some.inj h1
   exact ⟨rfl, trivial⟩
 ·intro l1 hl1
  refine AW.weaken hl1.sub ?_
  refine AW.ret ?_
  obtain rfl := Option.some.inj h0
  exact ⟨_, .tmp rfl rfl .nil, .inl ⟨rfl, rfl⟩, .inl ⟨rfl, rfl⟩, trivial⟩

theorem W100  {i : Int} {arity : Int} {n : Int} {f : (List Int)} {r : Bool} (h0 : impl_noneOpen i arity n f = some r) : Meets Try.prog 100 [⟨tInt, 0, i⟩, ⟨tInt, 0, arity⟩, ⟨tInt, 0, n⟩, ⟨ty38, 0, f⟩] [⟨.bool, 0, r⟩] [⟨tInt, 0, i⟩, ⟨tInt, 0, arity⟩, ⟨tInt, 0, n⟩, ⟨ty38, 0, f⟩] := by
 refine Meets.of_body (fn := Try.f100) Try.func100 rfl rfl rfl fun c hn hfx => ?_
 unfold impl_noneOpen at h0
 refine AW.seq (AW.reg hn hfx rfl ?_)
 refine .cons rfl (r_copy (.inr rfl) rfl rfl) <| .nil ?_
 refine AW.sub [(0, _), (1, _), (2, _), (3, _)] ⟨rfl, rfl, rfl, rfl, trivial⟩ ?_
 obtain ⟨z11, h1, h0⟩ := bindE h0
 refine AW.seq (AW.joinX z11 [] trivial (fun s10 => []) ?_ ?_)
 ·refine AW.block ?_
  refine AW.loopP h1 [(2, _), (3, _)] ⟨rfl, rfl, trivial⟩ (fun s16 => [(0, .val tInt 0 s16.1), (1, .val tInt 0 s16.2)]) ⟨rfl, rfl, rfl, rfl, trivial⟩ fun s16 z20 h2 => ?_
  refine AW.seq ?_
  refine AW.seq (AW.reg hn hfx rfl ?_)
  refine .cons rfl (r_copy (.inl rfl) rfl rfl) <| .cons rfl (r_cmp rfl rfl rfl rfl rfl) <| .nil ?_
  refine AW.sub [(0, _), (1, _), (2, _), (3, _), (10, _)] ⟨rfl, rfl, rfl, rfl, rfl, trivial⟩ ?_
  refine AW.ifP rfl h2 (fun h2 => ?_) (fun h2 => ?_)
  ·refine AW.skip ?_
   refine AW.seq (AW.block ?_)
   refine AW.seq ?_
   refine AW.seq (AW.reg hn hfx rfl ?_)
   refine .cons rfl (r_copy (.inl rfl) rfl rfl) <| .cons rfl (r_copy (.inl rfl) rfl rfl) <| .cons rfl (r_copy (.inl rfl) rfl rfl) ?_
   obtain ⟨_, hx17, h2⟩ := bindE h2
   refine .cons rfl (r_rem rfl rfl rfl (needE hx17) rfl) ?_
   refine RT.sub [(0, _), (1, _), (2, _), (3, _), (13, _), (16, _)] ⟨rfl, rfl, rfl, rfl, rfl, rfl, trivial⟩ ?_
   obtain ⟨x18, hx18, h2⟩ := bindE h2
   refine .cons rfl (r_index_shared rfl rfl rfl ok38 (idx_nn hx18) (idx_get hx18)) <| .cons rfl (r_load_shared rfl rfl ok3) <| .cons rfl (r_cmp rfl rfl rfl rfl rfl) <| .nil ?_
   refine AW.sub [(0, _), (1, _), (2, _), (3, _), (19, _)] ⟨rfl, rfl, rfl, rfl, rfl, trivial⟩ ?_
   refine AW.ifP rfl h2 (fun h2 => ?_) (fun h2 => ?_)
   ·refine AW.seq (AW.reg hn hfx rfl ?_)
    refine .cons rfl (r_copy (.inr rfl) rfl rfl) <| .nil ?_
    refine AW.sub [(8, _)] ⟨rfl, trivial⟩ ?_
    refine AW.ret ?_
    refine ⟨_, (Option.some.inj h2).symm, fun hz => ?_⟩
    subst hz
    obtain rfl := Option.some.inj h0
    exact ⟨_, .tmp rfl rfl .nil, .inl ⟨rfl, rfl⟩, .inl ⟨rfl, rfl⟩, .inl ⟨rfl, rfl⟩, .inl ⟨rfl, rfl⟩, trivial⟩
   ·refine AW.skip ?_
    refine AW.reg hn hfx rfl ?_
    refine .cons rfl (r_copy (.inl rfl) rfl rfl) <| .cons rfl (r_copy (.inl rfl) rfl rfl) ?_
    obtain ⟨_, hx19, h2⟩ := bindE h2
    refine .cons rfl (r_quo rfl rfl rfl (needE hx19) rfl) <| .cons rfl (r_copy (.inr rfl) rfl rfl) <| .nil ?_
    refine AW.sub [(0, _), (1, _), (2, _), (3, _)] ⟨rfl, rfl, rfl, rfl, trivial⟩ ?_
    refine AW.reg hn hfx rfl ?_
    refine .cons rfl (r_copy (.inl rfl) rfl rfl) <| .cons rfl (r_arith rfl rfl rfl rfl rfl) <| .cons rfl (r_copy (.inr rfl) rfl rfl) <| .nil ?_
    exact ⟨_, (Option.some.inj h2).symm, ⟨rfl, rfl, rfl, rfl, trivial⟩⟩
  ·refine AW.exit ?_
   refine ⟨_, (Option.some.inj h2).symm, fun hz => ?_⟩
   subst hz
   exact ⟨_, rfl, trivial⟩
 ·rintro s10 rfl l1 hl1
  refine AW.weaken hl1.sub ?_
  refine AW.seq (AW.reg hn hfx rfl ?_)
  refine .cons rfl (r_copy (.inr rfl) rfl rfl) <| .nil ?_
  refine AW.sub [(8, _)] ⟨rfl, trivial⟩ ?_
  refine AW.ret ?_
  obtain rfl := Option.some.inj h0
  exact ⟨_, .tmp rfl rfl .nil, .inl ⟨rfl, rfl⟩, .inl ⟨rfl, rfl⟩, .inl ⟨rfl, rfl⟩, .inl ⟨rfl, rfl⟩, trivial⟩

theorem W101  {i : Int} {arity : Int} {a : (Int × ((List (Int × ((List Int) × Unit))) × Unit))} {b : (Int × ((List (Int × ((List Int) × Unit))) × Unit))} {f : (List Int)} {r : Int} (h0 : impl_imageIndex i arity a b f = some r) : Meets Try.prog 101 [⟨tInt, 0, i⟩, ⟨tInt, 0, arity⟩, ⟨ty26, 0, a⟩, ⟨ty26, 0, b⟩, ⟨ty38, 0, f⟩] [⟨tInt, 0, r⟩] [⟨tInt, 0, i⟩, ⟨tInt, 0, arity⟩, ⟨ty26, 0, a⟩, ⟨ty26, 0, b⟩, ⟨ty38, 0, f⟩] := by
 refine Meets.of_body (fn := Try.f101) Try.func101 rfl rfl rfl fun c hn hfx => ?_
 unfold impl_imageIndex at h0
 refine AW.seq (AW.reg hn hfx rfl ?_)
 refine .cons rfl (r_box [] rfl rfl rfl) <| .cons rfl (r_box [] rfl rfl rfl) <| .cons rfl (r_copy (.inr rfl) rfl rfl) <| .nil ?_
 refine AW.sub [(0, _), (1, _), (4, _), (7, _), (8, _)] ⟨rfl, rfl, rfl, rfl, rfl, trivial⟩ ?_
 refine AW.seq (AW.reg hn hfx rfl ?_)
 refine .cons rfl (r_copy (.inr rfl) rfl rfl) <| .cons rfl (r_copy (.inr rfl) rfl rfl) <| .nil ?_
 refine AW.sub [(0, _), (1, _), (4, _), (7, _), (8, _), (11, _), (12, _)] ⟨rfl, rfl, rfl, rfl, rfl, rfl, rfl, trivial⟩ ?_
 refine AW.seq ?_
 refine AW.seq (AW.reg hn hfx rfl ?_)
 refine .cons rfl (r_copy (.inr rfl) rfl rfl) <| .nil ?_
 refine AW.sub [(0, _), (1, _), (4, _), (7, _), (8, _), (11, _), (12, _), (13, _)] ⟨rfl, rfl, rfl, rfl, rfl, rfl, rfl, rfl, trivial⟩ ?_
 obtain ⟨z11, h1, h0⟩ := bindE h0
 refine AW.joinJ [] trivial [(11, .val tInt 0 z11)] ?_ ?_
 ·refine AW.block ?_
  refine AW.loopP h1 [(1, _), (4, _), (7, _), (8, _)] ⟨rfl, rfl, rfl, rfl, trivial⟩ (fun s16 => [(0, .val tInt 0 s16.1), (11, .val tInt 0 s16.2.1), (12, .val tInt 0 s16.2.2.1), (13, .val tInt 0 s16.2.2.2)]) ⟨rfl, rfl, rfl, rfl, rfl, rfl, rfl, rfl, trivial⟩ fun s16 z20 h2 => ?_
  refine AW.seq ?_
  refine AW.seq (AW.reg hn hfx rfl ?_)
  refine .cons rfl (r_copy (.inl rfl) rfl rfl) <| .cons rfl (r_copy (.inl rfl) rfl rfl) <| .cons rfl (r_cmp rfl rfl rfl rfl rfl) <| .nil ?_
  refine AW.sub [(0, _), (1, _), (4, _), (7, _), (8, _), (11, _), (12, _), (13, _), (16, _)] ⟨rfl, rfl, rfl, rfl, rfl, rfl, rfl, rfl, rfl, trivial⟩ ?_
  refine AW.ifP rfl h2 (fun h2 => ?_) (fun h2 => ?_)
  ·refine AW.skip ?_
   refine AW.seq (AW.block ?_)
   refine AW.seq (AW.reg hn hfx rfl ?_)
   refine .cons rfl (r_copy (.inl rfl) rfl rfl) <| .cons rfl (r_copy (.inl rfl) rfl rfl) <| .cons rfl (r_copy (.inl rfl) rfl rfl) <| .cons rfl (r_field rfl rfl rfl rfl ok26 rfl rfl) ?_
   refine RT.sub [(0, _), (1, _), (4, _), (7, _), (8, _), (12, _), (13, _), (19, _), (20, _), (21, _), (22, _)] ⟨rfl, rfl, rfl, rfl, rfl, rfl, rfl, rfl, rfl, rfl, rfl, trivial⟩ ?_
   refine .cons rfl (r_load rfl rfl rfl rfl ok3 rfl) ?_
   obtain ⟨_, hx17, h2⟩ := bindE h2
   refine .cons rfl (r_rem rfl rfl rfl (needE hx17) rfl) ?_
   obtain ⟨x18, hx18, h2⟩ := bindE h2
   refine .cons rfl (r_index_shared rfl rfl rfl ok38 (idx_nn hx18) (idx_get hx18)) <| .cons rfl (r_load_shared rfl rfl ok3) ?_
   refine RT.sub [(0, _), (1, _), (4, _), (7, _), (8, _), (12, _), (13, _), (19, _), (26, _)] ⟨rfl, rfl, rfl, rfl, rfl, rfl, rfl, rfl, rfl, trivial⟩ ?_
   refine .cons rfl (r_copy (.inl rfl) rfl rfl) <| .cons rfl (r_arith rfl rfl rfl rfl rfl) <| .cons rfl (r_arith rfl rfl rfl rfl rfl) <| .cons rfl (r_copy (.inr rfl) rfl rfl) <| .nil ?_
   refine AW.sub [(0, _), (1, _), (4, _), (7, _), (8, _), (11, _), (12, _), (13, _)] ⟨rfl, rfl, rfl, rfl, rfl, rfl, rfl, rfl, trivial⟩ ?_
   refine AW.seq (AW.reg hn hfx rfl ?_)
   refine .cons rfl (r_copy (.inl rfl) rfl rfl) <| .cons rfl (r_field rfl rfl rfl rfl ok26 rfl rfl) <| .cons rfl (r_load rfl rfl rfl rfl ok3 rfl) ?_
   obtain ⟨_, hx19, h2⟩ := bindE h2
   refine .cons rfl (r_quo rfl rfl rfl (needE hx19) rfl) ?_
   refine RT.sub [(0, _), (1, _), (4, _), (7, _), (8, _), (11, _), (12, _), (13, _), (33, _)] ⟨rfl, rfl, rfl, rfl, rfl, rfl, rfl, rfl, rfl, trivial⟩ ?_
   refine .cons rfl (r_copy (.inr rfl) rfl rfl) <| .nil ?_
   refine AW.sub [(0, _), (1, _), (4, _), (7, _), (8, _), (11, _), (12, _), (13, _)] ⟨rfl, rfl, rfl, rfl, rfl, rfl, rfl, rfl, trivial⟩ ?_
   refine AW.reg hn hfx rfl ?_
   refine .cons rfl (r_copy (.inl rfl) rfl rfl) <| .cons rfl (r_field rfl rfl rfl rfl ok26 rfl rfl) <| .cons rfl (r_load rfl rfl rfl rfl ok3 rfl) <| .cons rfl (r_arith rfl rfl rfl rfl rfl) ?_
   refine RT.sub [(0, _), (1, _), (4, _), (7, _), (8, _), (11, _), (12, _), (13, _), (37, _)] ⟨rfl, rfl, rfl, rfl, rfl, rfl, rfl, rfl, rfl, trivial⟩ ?_
   refine .cons rfl (r_copy (.inr rfl) rfl rfl) <| .nil ?_
   refine AW.sub [(0, _), (1, _), (4, _), (7, _), (8, _), (11, _), (12, _), (13, _)] ⟨rfl, rfl, rfl, rfl, rfl, rfl, rfl, rfl, trivial⟩ ?_
   refine AW.reg hn hfx rfl ?_
   refine .cons rfl (r_copy (.inl rfl) rfl rfl) <| .cons rfl (r_arith rfl rfl rfl rfl rfl) <| .cons rfl (r_copy (.inr rfl) rfl rfl) <| .nil ?_
   exact ⟨_, (Option.some.inj h2).symm, ⟨rfl, rfl, rfl, rfl, rfl, rfl, rfl, rfl, trivial⟩⟩
  ·refine AW.exit ?_
   refine ⟨_, (Option.some.inj h2).symm, fun hz => ?_⟩
   subst hz
   exact ⟨rfl, trivial⟩
 ·intro l1 hl1
  refine AW.weaken hl1.sub ?_
  refine AW.seq (AW.reg hn hfx rfl ?_)
  refine .cons rfl (r_copy (.inl rfl) rfl rfl) <| .cons rfl (r_copy (.inr rfl) rfl rfl) <| .nil ?_
  refine AW.sub [(10, _)] ⟨rfl, trivial⟩ ?_
  refine AW.ret ?_
  obtain rfl := Option.some.inj h0
  exact ⟨_, .tmp rfl rfl .nil, .inl ⟨rfl, rfl⟩, .inl ⟨rfl, rfl⟩, .inl ⟨rfl, rfl⟩, .inl ⟨rfl, rfl⟩, .inl ⟨rfl, rfl⟩, trivial⟩

theorem W96  {a : (Int × ((List (Int × ((List Int) × Unit))) × Unit))} {b : (Int × ((List (Int × ((List Int) × Unit))) × Unit))} {f : (List Int)} {r : (Bool × (List Int))} (h0 : impl_closeMap a b f = some r) : Meets Try.prog 96 [⟨ty26, 0, a⟩, ⟨ty26, 0, b⟩, ⟨ty38, 1, f⟩] [⟨.bool, 0, r.1⟩] [⟨ty26, 0, a⟩, ⟨ty26, 0, b⟩, ⟨ty38, 1, r.2⟩] := by
 refine Meets.of_body (fn := Try.f96) Try.func96 rfl rfl rfl fun c hn hfx => ?_
 unfold impl_closeMap at h0
 refine AW.seq (AW.reg hn hfx rfl ?_)
 refine .cons rfl (r_box [] rfl rfl rfl) <| .cons rfl (r_box [] rfl rfl rfl) <| .cons rfl (r_copy (.inr rfl) rfl rfl) <| .nil ?_
 refine AW.sub [(2, _), (3, _), (4, _)] ⟨rfl, rfl, rfl, trivial⟩ ?_
 refine AW.seq ?_
 refine AW.seq (AW.reg hn hfx rfl ?_)
 refine .cons rfl (r_copy (.inr rfl) rfl rfl) <| .nil ?_
 refine AW.sub [(2, _), (3, _), (4, _), (7, _)] ⟨rfl, rfl, rfl, rfl, trivial⟩ ?_
 obtain ⟨z711, h1, h0⟩ := bindE h0
 refine AW.joinX z711 [] trivial (fun s710 => [(2, .val ty38 1 s710)]) ?_ ?_
 ·refine AW.block ?_
  refine AW.loopP h1 [(3, _), (4, _)] ⟨rfl, rfl, trivial⟩ (fun s1066 => [(2, .val ty38 1 s1066.1), (7, .val .bool 0 s1066.2)]) ⟨rfl, rfl, rfl, rfl, trivial⟩ fun s1066 z1420 h2 => ?_
  refine AW.seq ?_
  refine AW.seq (AW.reg hn hfx rfl ?_)
  refine .cons rfl (r_copy (.inl rfl) rfl rfl) <| .nil ?_
  refine AW.sub [(2, _), (3, _), (4, _), (13, _)] ⟨rfl, rfl, rfl, rfl, trivial⟩ ?_
  refine AW.ifP rfl h2 (fun h2 => ?_) (fun h2 => ?_)
  ·refine AW.skip ?_
   refine AW.block ?_
   refine AW.seq (AW.reg hn hfx rfl ?_)
   refine .cons rfl (r_copy (.inr rfl) rfl rfl) <| .nil ?_
   refine AW.sub [(2, _), (3, _), (4, _), (7, _)] ⟨rfl, rfl, rfl, rfl, trivial⟩ ?_
   refine AW.seq (AW.reg hn hfx rfl ?_)
   refine .cons rfl (r_field rfl rfl rfl rfl ok26 rfl rfl) <| .cons rfl (r_load rfl rfl rfl rfl ok24 rfl) <| .cons rfl (r_len rfl rfl ok24 rfl) <| .cons rfl (r_copy (.inl rfl) rfl rfl) <| .nil ?_
   refine AW.sub [(2, _), (3, _), (4, _), (7, _), (15, _), (16, _), (17, _)] ⟨rfl, rfl, rfl, rfl, rfl, rfl, rfl, trivial⟩ ?_
   obtain ⟨z1243, h3, h2⟩ := bindE h2
   refine AW.joinX z1243 [(3, _), (4, _)] ⟨rfl, rfl, trivial⟩ (fun s1242 => [(2, .val ty38 1 s1242.1), (7, .val .bool 0 s1242.2)]) ?_ ?_
   ·refine AW.block ?_
    refine AW.loopP h3 [(3, _), (4, _), (15, _), (16, _)] ⟨rfl, rfl, rfl, rfl, trivial⟩ (fun s1331 => [(2, .val ty38 1 s1331.1), (7, .val .bool 0 s1331.2.1), (17, .val tInt 0 s1331.2.2)]) ⟨rfl, rfl, rfl, rfl, rfl, rfl, rfl, trivial⟩ fun s1331 z1418 h4 => ?_
    refine AW.seq (AW.reg hn hfx rfl ?_)
    refine .cons rfl (r_cmp rfl rfl rfl rfl rfl) <| .nil ?_
    refine AW.sub [(2, _), (3, _), (4, _), (7, _), (15, _), (16, _), (17, _), (18, _)] ⟨rfl, rfl, rfl, rfl, rfl, rfl, rfl, rfl, trivial⟩ ?_
    refine AW.seq (AW.ifP rfl h4 (fun h4 => ?_) (fun h4 => ?_))
    ·refine AW.skip ?_
     refine AW.seq (AW.block ?_)
     refine AW.seq (AW.reg hn hfx rfl ?_)
     refine .cons rfl (r_copy (.inl rfl) rfl rfl) ?_
     obtain ⟨x1332, hx1332, h4⟩ := bindE h4
     refine .cons rfl (r_index_shared rfl rfl rfl ok24 (idx_nn hx1332) (idx_get hx1332)) <| .cons rfl (r_load_shared rfl rfl ok72) <| .cons rfl (SR.lower 1 (r_alloc rfl ok72 rfl)) ?_
     refine RT.sub [(2, _), (3, _), (4, _), (7, _), (9, _), (15, _), (16, _), (17, _), (19, _), (21, _)] ⟨rfl, rfl, rfl, rfl, rfl, rfl, rfl, rfl, rfl, rfl, trivial⟩ ?_
     refine .cons rfl (r_copy (.inr rfl) rfl rfl) <| .cons rfl (r_store [] rfl rfl rfl rfl rfl rfl rfl rfl ok72 rfl rfl rfl rfl) <| .nil ?_
     refine AW.sub [(2, _), (3, _), (4, _), (7, _), (8, _), (9, _), (15, _), (16, _), (17, _)] ⟨rfl, rfl, rfl, rfl, rfl, rfl, rfl, rfl, rfl, trivial⟩ ?_
     refine AW.seq (AW.reg hn hfx rfl ?_)
     refine .cons rfl (r_field rfl rfl rfl rfl ok72 rfl rfl) <| .cons rfl (r_load rfl rfl rfl rfl ok38 rfl) <| .cons rfl (r_len rfl rfl ok38 rfl) <| .cons rfl (r_copy (.inl rfl) rfl rfl) <| .nil ?_
     refine AW.sub [(2, _), (3, _), (4, _), (7, _), (8, _), (9, _), (15, _), (16, _), (17, _), (23, _), (24, _), (25, _)] ⟨rfl, rfl, rfl, rfl, rfl, rfl, rfl, rfl, rfl, rfl, rfl, rfl, trivial⟩ ?_
     obtain ⟨z1375, h5, h4⟩ := bindE h4
     refine AW.joinX z1375 [(3, _), (4, _), (15, _), (16, _), (17, _)] ⟨rfl, rfl, rfl, rfl, rfl, trivial⟩ (fun s1374 => [(2, .val ty38 1 s1374.1), (7, .val .bool 0 s1374.2)]) ?_ ?_
     ·refine AW.block ?_
      refine AW.loopP h5 [(3, _), (4, _), (8, _), (9, _), (15, _), (16, _), (17, _), (23, _), (24, _)] ⟨rfl, rfl, rfl, rfl, rfl, rfl, rfl, rfl, rfl, trivial⟩ (fun s1396 => [(2, .val ty38 1 s1396.1), (7, .val .bool 0 s1396.2.1), (25, .val tInt 0 s1396.2.2)]) ⟨rfl, rfl, rfl, rfl, rfl, rfl, rfl, rfl, rfl, rfl, rfl, rfl, trivial⟩ fun s1396 z1416 h6 => ?_
      refine AW.seq (AW.reg hn hfx rfl ?_)
      refine .cons rfl (r_cmp rfl rfl rfl rfl rfl) <| .nil ?_
      refine AW.sub [(2, _), (3, _), (4, _), (7, _), (8, _), (9, _), (15, _), (16, _), (17, _), (23, _), (24, _), (25, _), (26, _)] ⟨rfl, rfl, rfl, rfl, rfl, rfl, rfl, rfl, rfl, rfl, rfl, rfl, rfl, trivial⟩ ?_
      refine AW.seq (AW.ifP rfl h6 (fun h6 => ?_) (fun h6 => ?_))
      ·refine AW.skip ?_
       refine AW.sub [(2, _), (3, _), (4, _), (7, _), (8, _), (9, _), (15, _), (16, _), (17, _), (23, _), (24, _), (25, _)] ⟨rfl, rfl, rfl, rfl, rfl, rfl, rfl, rfl, rfl, rfl, rfl, rfl, trivial⟩ ?_
       obtain ⟨z1406, h7, h6⟩ := bindE h6
       refine AW.seq (AW.joinX z1406 [(3, _), (4, _), (8, _), (9, _), (15, _), (16, _), (17, _), (23, _), (24, _), (25, _)] ⟨rfl, rfl, rfl, rfl, rfl, rfl, rfl, rfl, rfl, rfl, trivial⟩ (fun s1405 => [(2, .val ty38 1 s1405.1), (7, .val .bool 0 s1405.2)]) ?_ ?_)
       ·refine AW.block ?_
        refine AW.seq (AW.reg hn hfx rfl ?_)
        refine .cons rfl (r_copy (.inl rfl) rfl rfl) ?_
        obtain ⟨x1407, hx1407, h7⟩ := bindE h7
        refine .cons rfl (r_index_shared rfl rfl rfl ok38 (idx_nn hx1407) (idx_get hx1407)) <| .cons rfl (r_load_shared rfl rfl ok3) <| .cons rfl (r_copy (.inr rfl) rfl rfl) ?_
        refine RT.sub [(2, _), (3, _), (4, _), (7, _), (8, _), (9, _), (10, _), (15, _), (16, _), (17, _), (23, _), (24, _), (25, _), (29, _)] ⟨rfl, rfl, rfl, rfl, rfl, rfl, rfl, rfl, rfl, rfl, rfl, rfl, rfl, rfl, trivial⟩ ?_
        refine .cons rfl (r_copy (.inr rfl) rfl rfl) <| .nil ?_
        refine AW.sub [(2, _), (3, _), (4, _), (7, _), (8, _), (9, _), (10, _), (11, _), (15, _), (16, _), (17, _), (23, _), (24, _), (25, _)] ⟨rfl, rfl, rfl, rfl, rfl, rfl, rfl, rfl, rfl, rfl, rfl, rfl, rfl, rfl, trivial⟩ ?_
        refine AW.seq ?_
        refine AW.seq (AW.reg hn hfx rfl ?_)
        refine .cons rfl (r_copy (.inl rfl) rfl rfl) <| .cons rfl (r_field rfl rfl rfl rfl ok72 rfl rfl) <| .cons rfl (r_load rfl rfl rfl rfl ok3 rfl) <| .cons rfl (r_field rfl rfl rfl rfl ok26 rfl rfl) ?_
        refine RT.sub [(2, _), (3, _), (4, _), (7, _), (8, _), (9, _), (10, _), (11, _), (15, _), (16, _), (17, _), (23, _), (24, _), (25, _), (30, _), (32, _), (33, _)] ⟨rfl, rfl, rfl, rfl, rfl, rfl, rfl, rfl, rfl, rfl, rfl, rfl, rfl, rfl, rfl, rfl, rfl, trivial⟩ ?_
        refine .cons rfl (r_load rfl rfl rfl rfl ok3 rfl) <| .cons rfl (r_alias rfl rfl) ?_
        obtain ⟨x1408, hx1408, h7⟩ := bindE h7
        refine .cons rfl (r_call rfl rfl rfl Try.func100 rfl rfl (W100 hx1408) rfl) <| .cons rfl (r_not rfl rfl rfl) <| .nil ?_
        refine AW.sub [(2, _), (3, _), (4, _), (7, _), (8, _), (9, _), (10, _), (11, _), (15, _), (16, _), (17, _), (23, _), (24, _), (25, _), (37, _)] ⟨rfl, rfl, rfl, rfl, rfl, rfl, rfl, rfl, rfl, rfl, rfl, rfl, rfl, rfl, rfl, trivial⟩ ?_
        refine AW.ifP rfl h7 (fun h7 => ?_) (fun h7 => ?_)
        ·refine AW.exit ?_
         obtain rfl := Option.some.inj h7
         exact ⟨_, rfl, ⟨rfl, rfl, rfl, rfl, rfl, rfl, rfl, rfl, rfl, rfl, rfl, rfl, trivial⟩⟩
        ·refine AW.skip ?_
         refine AW.seq (AW.draw hmix hn hfx rfl rfl ?_)
         refine .cons rfl (r_field rfl rfl rfl rfl ok26 rfl rfl) rfl rfl rfl <| .cons rfl (r_load rfl rfl rfl rfl ok24 rfl) rfl rfl rfl <| .cons rfl (r_copy (.inl rfl) rfl rfl) rfl rfl rfl ?_
         obtain ⟨x1409, hx1409, h7⟩ := bindE h7
         refine .cons rfl (r_index_shared rfl rfl rfl ok24 (idx_nn hx1409) (idx_get hx1409)) rfl rfl rfl ?_
         refine DT.eq [(41, _), (40, _), (39, _), (38, _), (2, _), (3, _), (4, _), (7, _), (8, _), (9, _), (10, _), (11, _), (15, _), (16, _), (17, _), (23, _), (24, _), (25, _), (37, _)] rfl ?_
         refine .cons rfl (r_field_shared rfl rfl ok72 rfl rfl rfl) rfl rfl rfl <| .cons rfl (r_load_shared rfl rfl ok38) rfl rfl rfl <| .cons rfl (r_copy (.inl rfl) rfl rfl) rfl rfl rfl <| .cons rfl (r_field rfl rfl rfl rfl ok72 rfl rfl) rfl rfl rfl ?_
         refine DT.eq [(45, _), (44, _), (43, _), (42, _), (41, _), (40, _), (39, _), (38, _), (2, _), (3, _), (4, _), (7, _), (8, _), (9, _), (10, _), (11, _), (15, _), (16, _), (17, _), (23, _), (24, _), (25, _), (37, _)] rfl ?_
         refine .cons rfl (r_load rfl rfl rfl rfl ok3 rfl) rfl rfl rfl <| .cons rfl (r_load rfl rfl rfl rfl ok26 rfl) rfl rfl rfl <| .cons rfl (r_load rfl rfl rfl rfl ok26 rfl) rfl rfl rfl <| .cons rfl (r_aliasF rfl) rfl rfl rfl ?_
         refine DT.eq [(49, _), (48, _), (47, _), (46, _), (45, _), (44, _), (43, _), (42, _), (41, _), (40, _), (39, _), (38, _), (2, _), (3, _), (4, _), (7, _), (8, _), (9, _), (10, _), (11, _), (15, _), (16, _), (17, _), (23, _), (24, _), (25, _), (37, _)] rfl ?_
         obtain ⟨x1410, hx1410, h7⟩ := bindE h7
         refine .cons rfl (r_call rfl rfl rfl Try.func101 rfl rfl (W101 hx1410) rfl) rfl rfl rfl ?_
         obtain ⟨x1411, hx1411, h7⟩ := bindE h7
         refine .cons rfl (r_index_shared rfl rfl rfl ok38 (idx_nn hx1411) (idx_get hx1411)) rfl rfl rfl <| .cons rfl (r_load_shared rfl rfl ok3) rfl rfl rfl <| .cons rfl (r_copy (.inr rfl) rfl rfl) rfl rfl rfl <| .nil rfl ?_
         refine AW.sub [(2, _), (3, _), (4, _), (7, _), (8, _), (9, _), (11, _), (12, _), (15, _), (16, _), (17, _), (23, _), (24, _), (25, _)] ⟨rfl, rfl, rfl, rfl, rfl, rfl, rfl, rfl, rfl, rfl, rfl, rfl, rfl, rfl, trivial⟩ ?_
         refine AW.seq (AW.reg hn hfx rfl ?_)
         refine .cons rfl (r_alias rfl rfl) <| .cons rfl (r_copy (.inl rfl) rfl rfl) ?_
         obtain ⟨x1412, hx1412, h7⟩ := bindE h7
         refine .cons rfl (r_index_own rfl rfl rfl rfl rfl ok38 (idx_nn hx1412) (idx_lt hx1412)) <| .cons rfl (r_load rfl rfl rfl (sub_app rfl (sub_e (idx_get hx1412))) ok3 rfl) ?_
         refine RT.sub [(2, _), (3, _), (4, _), (7, _), (8, _), (9, _), (11, _), (12, _), (15, _), (16, _), (17, _), (23, _), (24, _), (25, _), (56, _)] ⟨rfl, rfl, rfl, rfl, rfl, rfl, rfl, rfl, rfl, rfl, rfl, rfl, rfl, rfl, rfl, trivial⟩ ?_
         refine .cons rfl (r_cmp rfl rfl rfl rfl rfl) <| .nil ?_
         refine AW.sub [(2, _), (3, _), (4, _), (7, _), (8, _), (9, _), (11, _), (12, _), (15, _), (16, _), (17, _), (23, _), (24, _), (25, _), (57, _)] ⟨rfl, rfl, rfl, rfl, rfl, rfl, rfl, rfl, rfl, rfl, rfl, rfl, rfl, rfl, rfl, trivial⟩ ?_
         refine AW.ifP rfl h7 (fun h7 => ?_) (fun h7 => ?_)
         ·refine AW.seq (AW.reg hn hfx rfl ?_)
          refine .cons rfl (r_alias rfl rfl) <| .cons rfl (r_copy (.inl rfl) rfl rfl) <| .cons rfl (r_copy (.inl rfl) rfl rfl) ?_
          obtain ⟨x1413, hx1413, h7⟩ := bindE h7
          refine .cons rfl (r_index_own rfl rfl rfl rfl rfl ok38 (idx_nn hx1413) (idx_lt hx1413)) ?_
          refine RT.sub [(2, _), (3, _), (4, _), (8, _), (9, _), (15, _), (16, _), (17, _), (23, _), (24, _), (25, _), (60, _), (61, _)] ⟨rfl, rfl, rfl, rfl, rfl, rfl, rfl, rfl, rfl, rfl, rfl, rfl, rfl, trivial⟩ ?_
          refine .cons rfl (r_store [] rfl rfl rfl rfl rfl rfl rfl (sub_app rfl (sub_e (idx_get hx1413))) ok3 rfl rfl rfl (repl_app rfl (repl_e (idx_get hx1413)) rfl)) <| .nil ?_
          refine AW.sub [(2, _), (3, _), (4, _), (8, _), (9, _), (15, _), (16, _), (17, _), (23, _), (24, _), (25, _)] ⟨rfl, rfl, rfl, rfl, rfl, rfl, rfl, rfl, rfl, rfl, rfl, trivial⟩ ?_
          refine AW.reg hn hfx rfl ?_
          refine .cons rfl (r_copy (.inr rfl) rfl rfl) <| .nil ?_
          obtain rfl := Option.some.inj h7
          exact ⟨_, rfl, ⟨rfl, rfl, rfl, rfl, rfl, rfl, rfl, rfl, rfl, rfl, rfl, rfl, trivial⟩⟩
         ·refine AW.seq (AW.reg hn hfx rfl ?_)
          refine .cons rfl (r_alias rfl rfl) <| .cons rfl (r_copy (.inl rfl) rfl rfl) ?_
          obtain ⟨x1414, hx1414, h7⟩ := bindE h7
          refine .cons rfl (r_index_own rfl rfl rfl rfl rfl ok38 (idx_nn hx1414) (idx_lt hx1414)) <| .cons rfl (r_load rfl rfl rfl (sub_app rfl (sub_e (idx_get hx1414))) ok3 rfl) ?_
          refine RT.sub [(2, _), (3, _), (4, _), (7, _), (8, _), (9, _), (12, _), (15, _), (16, _), (17, _), (23, _), (24, _), (25, _), (65, _)] ⟨rfl, rfl, rfl, rfl, rfl, rfl, rfl, rfl, rfl, rfl, rfl, rfl, rfl, rfl, trivial⟩ ?_
          refine .cons rfl (r_copy (.inl rfl) rfl rfl) <| .cons rfl (r_cmp rfl rfl rfl rfl rfl) <| .nil ?_
          refine AW.sub [(2, _), (3, _), (4, _), (7, _), (8, _), (9, _), (15, _), (16, _), (17, _), (23, _), (24, _), (25, _), (67, _)] ⟨rfl, rfl, rfl, rfl, rfl, rfl, rfl, rfl, rfl, rfl, rfl, rfl, rfl, trivial⟩ ?_
          refine AW.ifP rfl h7 (fun h7 => ?_) (fun h7 => ?_)
          ·refine AW.seq (AW.reg hn hfx rfl ?_)
           refine .cons rfl (r_copy (.inr rfl) rfl rfl) <| .nil ?_
           refine AW.sub [(2, _), (6, _)] ⟨rfl, rfl, trivial⟩ ?_
           refine AW.ret ?_
           obtain rfl := Option.some.inj h7
           refine ⟨_, (Option.some.inj h6).symm, fun hz => ?_⟩
           subst hz
           refine ⟨_, (Option.some.inj h4).symm, fun hz => ?_⟩
           subst hz
           refine ⟨_, (Option.some.inj h2).symm, fun hz => ?_⟩
           subst hz
           obtain rfl := Option.some.inj h0
           exact ⟨_, .tmp rfl rfl .nil, .inl ⟨rfl, rfl⟩, .inl ⟨rfl, rfl⟩, .inr ⟨nofun, rfl⟩, trivial⟩
          ·refine AW.skip ?_
           obtain rfl := Option.some.inj h7
           exact ⟨_, rfl, ⟨rfl, rfl, rfl, rfl, rfl, rfl, rfl, rfl, rfl, rfl, rfl, rfl, trivial⟩⟩
       ·rintro s1405 rfl l1 hl1
        refine AW.weaken hl1.sub ?_
        refine AW.reg hn hfx rfl ?_
        refine .cons rfl (r_arith rfl rfl rfl rfl rfl) <| .cons rfl (r_copy (.inl rfl) rfl rfl) <| .nil ?_
        exact ⟨_, (Option.some.inj h6).symm, ⟨rfl, rfl, rfl, rfl, rfl, rfl, rfl, rfl, rfl, rfl, rfl, rfl, trivial⟩⟩
      ·refine AW.exit ?_
       refine ⟨_, (Option.some.inj h6).symm, fun hz => ?_⟩
       subst hz
       exact ⟨_, rfl, ⟨rfl, rfl, rfl, rfl, rfl, rfl, rfl, trivial⟩⟩
     ·rintro s1374 rfl l1 hl1
      refine AW.weaken hl1.sub ?_
      refine AW.reg hn hfx rfl ?_
      refine .cons rfl (r_arith rfl rfl rfl rfl rfl) <| .cons rfl (r_copy (.inl rfl) rfl rfl) <| .nil ?_
      exact ⟨_, (Option.some.inj h4).symm, ⟨rfl, rfl, rfl, rfl, rfl, rfl, rfl, trivial⟩⟩
    ·refine AW.exit ?_
     refine ⟨_, (Option.some.inj h4).symm, fun hz => ?_⟩
     subst hz
     exact ⟨_, rfl, ⟨rfl, rfl, rfl, rfl, trivial⟩⟩
   ·rintro s1242 rfl l1 hl1
    exact ⟨_, (Option.some.inj h2).symm, Sub.via hl1 ⟨rfl, rfl, rfl, rfl, trivial⟩⟩
  ·refine AW.exit ?_
   refine ⟨_, (Option.some.inj h2).symm, fun hz => ?_⟩
   subst hz
   exact ⟨_, rfl, ⟨rfl, trivial⟩⟩
 ·rintro s710 rfl l1 hl1
  refine AW.weaken hl1.sub ?_
  refine AW.seq (AW.reg hn hfx rfl ?_)
  refine .cons rfl (r_copy (.inr rfl) rfl rfl) <| .nil ?_
  refine AW.sub [(2, _), (6, _)] ⟨rfl, rfl, trivial⟩ ?_
  refine AW.ret ?_
  obtain rfl := Option.some.inj h0
  exact ⟨_, .tmp rfl rfl .nil, .inl ⟨rfl, rfl⟩, .inl ⟨rfl, rfl⟩, .inr ⟨nofun, rfl⟩, trivial⟩

theorem W90_70 {s_0_c0 : Value} {s_0_c1 : Value} {s_l0 : (Int × ((List (Int × ((List Int) × Unit))) × Unit))} {s_l1 : (Int × ((List (Int × ((List Int) × Unit))) × Unit))} {s_l2 : Bool} {s_l3 : Int} {f : (List Int)} {s_0_c1_u2v : (Option (List Int))} {r : (Bool × (List Int) × (Option (List Int)))} (h0 : impl_homSearch_fits_with_firstHom_1_with_anyHom s_l0 s_l1 s_l2 s_l3 f s_0_c1_u2v = some r) : ∀ us0 : List Value, us0.length = 2 → MeetsU Try.prog 90 (us0 ++ []) [s_0_c0, s_0_c1] ([⟨(.ptr ty91), 0, (s_l0, (s_l1, (s_l2, (s_l3, ((Value.func (Fn.func 70) #[] #[s_0_c0, s_0_c1]), ())))))⟩, ⟨ty38, 1, f⟩] ++ [⟨(.ptr .raw), 0, (Value.func (Fn.func 40) #[] #[])⟩, ⟨(.ptr (.opt ty38)), 2, s_0_c1_u2v⟩]) [⟨.bool, 0, r.1⟩] ([⟨(.ptr ty91), 0, (s_l0, (s_l1, (s_l2, (s_l3, ((Value.func (Fn.func 70) #[] #[s_0_c0, s_0_c1]), ())))))⟩, ⟨ty38, 1, r.2.1⟩] ++ [⟨(.ptr .raw), 0, (Value.func (Fn.func 40) #[] #[])⟩, ⟨(.ptr (.opt ty38)), 2, r.2.2⟩]) := by
 intro us0 hus0
 refine match us0, hus0 with | [w0, w1], _ => ?_
 refine MeetsU.of_body (n := 2) rfl (fn := Try.f90) Try.func90 rfl rfl rfl rfl rfl rfl fun c hn hfx hfix => ?_
 have hfix : ∀ p, p ∈ [(0, w0), (1, w1)] → p ∈ c.fix := hfix
 have k0 : (0, w0) ∈ c.fix := hfix _ (.head _)
 have k1 : (1, w1) ∈ c.fix := hfix _ (.tail _ (.head _))
 unfold impl_homSearch_fits_with_firstHom_1_with_anyHom at h0
 refine AW.seq (AW.reg hn hfx rfl ?_)
 refine .cons rfl (r_copy (.inr rfl) rfl rfl) <| .nil ?_
 refine AW.sub [(0, _), (1, _), (900000, _), (900001, _)] ⟨rfl, rfl, rfl, rfl, trivial⟩ ?_
 refine AW.seq ?_
 refine AW.seq (AW.draw hmix hn hfx rfl rfl ?_)
 refine .cons rfl (r_copy (.inl rfl) rfl rfl) rfl rfl rfl <| .cons rfl (r_nil_shared rfl rfl) rfl rfl rfl <| .cons rfl (r_field_shared rfl rfl ok91 rfl rfl rfl) rfl rfl rfl <| .cons rfl (r_load_shared rfl rfl ok26) rfl rfl rfl ?_
 refine DT.eq [(11, _), (10, _), (9, _), (8, _), (0, _), (1, _), (900000, _), (900001, _)] rfl ?_
 refine .cons rfl (r_copy (.inl rfl) rfl rfl) rfl rfl rfl <| .cons rfl (r_nil_shared rfl rfl) rfl rfl rfl <| .cons rfl (r_field_shared rfl rfl ok91 rfl rfl rfl) rfl rfl rfl <| .cons rfl (r_load_shared rfl rfl ok26) rfl rfl rfl ?_
 refine DT.eq [(15, _), (14, _), (13, _), (12, _), (11, _), (10, _), (9, _), (8, _), (0, _), (1, _), (900000, _), (900001, _)] rfl ?_
 refine .cons rfl (r_aliasF rfl) rfl rfl rfl ?_
 obtain ⟨x1, hx1, h0⟩ := bindE h0
 refine .cons rfl (r_callG (some (2, 1)) rfl rfl Try.func96 rfl rfl (W96 hx1) ⟨rfl, rfl, rfl, trivial⟩ rfl) rfl rfl rfl <| .cons rfl (r_not rfl rfl rfl) rfl rfl rfl <| .nil rfl ?_
 refine AW.sub [(0, _), (1, _), (18, _), (900000, _), (900001, _)] ⟨rfl, rfl, rfl, rfl, rfl, trivial⟩ ?_
 refine AW.ifP rfl h0 (fun h0 => ?_) (fun h0 => ?_)
 ·refine AW.seq (AW.reg hn hfx rfl ?_)
  refine .cons rfl (r_copy (.inr rfl) rfl rfl) <| .nil ?_
  refine AW.sub [(0, _), (1, _), (4, _), (900000, _), (900001, _)] ⟨rfl, rfl, rfl, rfl, rfl, trivial⟩ ?_
  refine AW.ret ?_
  obtain rfl := Option.some.inj h0
  exact ⟨_, .tmp rfl rfl .nil, ⟨.inl ⟨rfl, rfl⟩, .inr ⟨nofun, rfl⟩, trivial⟩, ⟨rfl, rfl, trivial⟩⟩
 ·refine AW.skip ?_
  refine AW.seq ?_
  refine AW.seq (AW.reg hn hfx rfl ?_)
  refine .cons rfl (r_copy (.inl rfl) rfl rfl) <| .cons rfl (r_nil_shared rfl rfl) <| .cons rfl (r_field_shared rfl rfl ok91 rfl rfl rfl) <| .cons rfl (r_load_shared rfl rfl ok4) ?_
  refine RT.sub [(0, _), (1, _), (22, _), (900000, _), (900001, _)] ⟨rfl, rfl, rfl, rfl, rfl, trivial⟩ ?_
  refine .cons rfl (r_not rfl rfl rfl) <| .nil ?_
  refine AW.sub [(0, _), (1, _), (23, _), (900000, _), (900001, _)] ⟨rfl, rfl, rfl, rfl, rfl, trivial⟩ ?_
  refine AW.ifP rfl h0 (fun h0 => ?_) (fun h0 => ?_)
  ·refine AW.seq (AW.reg hn hfx rfl ?_)
   refine .cons rfl (r_copy (.inr rfl) rfl rfl) <| .nil ?_
   refine AW.sub [(0, _), (1, _), (4, _), (900000, _), (900001, _)] ⟨rfl, rfl, rfl, rfl, rfl, trivial⟩ ?_
   refine AW.ret ?_
   obtain rfl := Option.some.inj h0
   exact ⟨_, .tmp rfl rfl .nil, ⟨.inl ⟨rfl, rfl⟩, .inr ⟨nofun, rfl⟩, trivial⟩, ⟨rfl, rfl, trivial⟩⟩
  ·refine AW.skip ?_
   refine AW.seq (AW.reg hn hfx rfl ?_)
   refine .cons rfl (r_copy (.inl rfl) rfl rfl) <| .cons rfl (r_nil_shared rfl rfl) <| .cons rfl (r_field_shared rfl rfl ok91 rfl rfl rfl) <| .cons rfl (r_field_shared rfl rfl ok26 rfl rfl rfl) ?_
   refine RT.sub [(0, _), (1, _), (27, _), (900000, _), (900001, _)] ⟨rfl, rfl, rfl, rfl, rfl, trivial⟩ ?_
   refine .cons rfl (r_load_shared rfl rfl ok3) ?_
   obtain ⟨x2, hx2, h0⟩ := bindE h0
   refine .cons rfl (r_mkS rfl rfl rfl ok74 rfl hx2) <| .cons rfl (r_assign [] (.inl rfl) rfl rfl) <| .nil ?_
   refine AW.sub [(0, _), (1, _), (5, _), (900000, _), (900001, _)] ⟨rfl, rfl, rfl, rfl, rfl, trivial⟩ ?_
   refine AW.seq ?_
   refine AW.seq (AW.reg hn hfx rfl ?_)
   refine .cons rfl (r_alias rfl rfl) <| .cons rfl (r_len_own rfl rfl rfl rfl ok38 rfl) <| .cons rfl (r_copy (.inl rfl) rfl rfl) <| .nil ?_
   refine AW.sub [(0, _), (1, _), (5, _), (30, _), (31, _), (32, _), (900000, _), (900001, _)] ⟨rfl, rfl, rfl, rfl, rfl, rfl, rfl, rfl, trivial⟩ ?_
   obtain ⟨z29, h1, h0⟩ := bindE h0
   refine AW.joinX z29 [(0, _), (1, _), (900000, _), (900001, _)] ⟨rfl, rfl, rfl, rfl, trivial⟩ (fun s28 => []) ?_ ?_
   ·refine AW.block ?_
    refine AW.loopP h1 [(0, _), (1, _), (30, _), (31, _), (900000, _), (900001, _)] ⟨rfl, rfl, rfl, rfl, rfl, rfl, trivial⟩ (fun s42 => [(5, .val ty74 1 s42.1), (32, .val tInt 0 s42.2)]) ⟨rfl, rfl, rfl, rfl, rfl, rfl, rfl, rfl, trivial⟩ fun s42 z54 h2 => ?_
    refine AW.seq (AW.reg hn hfx rfl ?_)
    refine .cons rfl (r_cmp rfl rfl rfl rfl rfl) <| .nil ?_
    refine AW.sub [(0, _), (1, _), (5, _), (30, _), (31, _), (32, _), (33, _), (900000, _), (900001, _)] ⟨rfl, rfl, rfl, rfl, rfl, rfl, rfl, rfl, rfl, trivial⟩ ?_
    refine AW.seq (AW.ifP rfl h2 (fun h2 => ?_) (fun h2 => ?_))
    ·refine AW.skip ?_
     refine AW.seq (AW.block ?_)
     refine AW.seq (AW.reg hn hfx rfl ?_)
     obtain ⟨x43, hx43, h2⟩ := bindE h2
     refine .cons rfl (r_index_own rfl rfl rfl rfl rfl ok38 (idx_nn hx43) (idx_lt hx43)) <| .cons rfl (r_load rfl rfl rfl (sub_app rfl (sub_e (idx_get hx43))) ok3 rfl) <| .cons rfl (r_copy (.inr rfl) rfl rfl) <| .nil ?_
     refine AW.sub [(0, _), (1, _), (5, _), (7, _), (30, _), (31, _), (32, _), (900000, _), (900001, _)] ⟨rfl, rfl, rfl, rfl, rfl, rfl, rfl, rfl, rfl, trivial⟩ ?_
     refine AW.seq ?_
     obtain ⟨z46, h3, h2⟩ := bindE h2
     refine AW.seq (AW.joinJ [(0, _), (1, _), (5, _), (7, _), (30, _), (31, _), (32, _), (900000, _), (900001, _)] ⟨rfl, rfl, rfl, rfl, rfl, rfl, rfl, rfl, rfl, trivial⟩ [(43, .val .bool 0 z46)] ?_ ?_)
     ·refine AW.reg hn hfx rfl ?_
      refine .cons rfl (r_copy (.inl rfl) rfl rfl) <| .cons rfl (r_cmp rfl rfl rfl rfl rfl) ?_
      refine .ifP (.inl rfl) rfl rfl h3 (fun h3 => ?_) (fun h3 => ?_)
      ·refine .cons (.inl ⟨_, _, _, rfl, rfl, rfl⟩) (r_alias rfl rfl) ?_
       refine RT.sub [(0, _), (1, _), (5, _), (7, _), (30, _), (31, _), (32, _), (38, _), (39, _), (900000, _), (900001, _)] ⟨rfl, rfl, rfl, rfl, rfl, rfl, rfl, rfl, rfl, rfl, rfl, trivial⟩ ?_
       refine .cons (.inl ⟨_, _, _, rfl, rfl, rfl⟩) (r_copy (.inl rfl) rfl rfl) ?_
       obtain ⟨x47, hx47, h3⟩ := bindE h3
       refine .cons (.inl ⟨_, _, _, rfl, rfl, rfl⟩) (r_index_own rfl rfl rfl rfl rfl ok74 (idx_nn hx47) (idx_lt hx47)) <| .cons (.inl ⟨_, _, _, rfl, rfl, rfl⟩) (r_load rfl rfl rfl (sub_app rfl (sub_e (idx_get hx47))) ok4 rfl) <| .cons rfl (r_pick_true rfl rfl rfl rfl) <| .nil ?_
       obtain rfl := Option.some.inj h3
       exact ⟨rfl, rfl, rfl, rfl, rfl, rfl, rfl, rfl, rfl, rfl, trivial⟩
      ·refine .pass (.inl ⟨_, _, _, rfl, rfl, rfl⟩) ?_
       refine RT.sub [(0, _), (1, _), (5, _), (7, _), (30, _), (31, _), (32, _), (38, _), (39, _), (900000, _), (900001, _)] ⟨rfl, rfl, rfl, rfl, rfl, rfl, rfl, rfl, rfl, rfl, rfl, trivial⟩ ?_
       refine .pass (.inl ⟨_, _, _, rfl, rfl, rfl⟩) <| .pass (.inl ⟨_, _, _, rfl, rfl, rfl⟩) <| .pass (.inl ⟨_, _, _, rfl, rfl, rfl⟩) <| .cons rfl (r_pick_false rfl rfl rfl rfl) <| .nil ?_
       obtain rfl := Option.some.inj h3
       exact ⟨rfl, rfl, rfl, rfl, rfl, rfl, rfl, rfl, rfl, rfl, trivial⟩
     ·intro l1 hl1
      refine AW.weaken hl1.sub ?_
      refine AW.ifP rfl h2 (fun h2 => ?_) (fun h2 => ?_)
      ·refine AW.seq (AW.reg hn hfx rfl ?_)
       refine .cons rfl (r_copy (.inr rfl) rfl rfl) <| .nil ?_
       refine AW.sub [(0, _), (1, _), (4, _), (900000, _), (900001, _)] ⟨rfl, rfl, rfl, rfl, rfl, trivial⟩ ?_
       refine AW.ret ?_
       refine ⟨_, (Option.some.inj h2).symm, fun hz => ?_⟩
       subst hz
       obtain rfl := Option.some.inj h0
       exact ⟨_, .tmp rfl rfl .nil, ⟨.inl ⟨rfl, rfl⟩, .inr ⟨nofun, rfl⟩, trivial⟩, ⟨rfl, rfl, trivial⟩⟩
      ·refine AW.skip ?_
       refine AW.seq (AW.reg hn hfx rfl ?_)
       refine .cons rfl (r_copy (.inl rfl) rfl rfl) <| .cons rfl (r_cmp rfl rfl rfl rfl rfl) <| .nil ?_
       refine AW.sub [(0, _), (1, _), (5, _), (7, _), (30, _), (31, _), (32, _), (45, _), (900000, _), (900001, _)] ⟨rfl, rfl, rfl, rfl, rfl, rfl, rfl, rfl, rfl, rfl, trivial⟩ ?_
       obtain ⟨z51, h3, h2⟩ := bindE h2
       refine AW.joinJ [(0, _), (1, _), (30, _), (31, _), (32, _), (900000, _), (900001, _)] ⟨rfl, rfl, rfl, rfl, rfl, rfl, rfl, trivial⟩ [(5, .val ty74 1 z51)] ?_ ?_
       ·refine AW.ifP rfl h3 (fun h3 => ?_) (fun h3 => ?_)
        ·refine AW.reg hn hfx rfl ?_
         refine .cons rfl (r_alias rfl rfl) <| .cons rfl (r_copy (.inl rfl) rfl rfl) ?_
         obtain ⟨x52, hx52, h3⟩ := bindE h3
         refine .cons rfl (r_index_own rfl rfl rfl rfl rfl ok74 (idx_nn hx52) (idx_lt hx52)) <| .cons rfl (r_store [] rfl rfl rfl rfl rfl rfl rfl (sub_app rfl (sub_e (idx_get hx52))) ok4 rfl rfl rfl (repl_app rfl (repl_e (idx_get hx52)) rfl)) <| .nil ?_
         obtain rfl := Option.some.inj h3
         exact ⟨rfl, rfl, rfl, rfl, rfl, rfl, rfl, rfl, trivial⟩
        ·refine AW.skip ?_
         obtain rfl := Option.some.inj h3
         exact ⟨rfl, rfl, rfl, rfl, rfl, rfl, rfl, rfl, trivial⟩
       ·intro l1 hl1
        refine AW.weaken hl1.sub ?_
        refine AW.reg hn hfx rfl ?_
        refine .cons rfl (r_arith rfl rfl rfl rfl rfl) <| .cons rfl (r_copy (.inl rfl) rfl rfl) <| .nil ?_
        exact ⟨_, (Option.some.inj h2).symm, ⟨rfl, rfl, rfl, rfl, rfl, rfl, rfl, rfl, trivial⟩⟩
    ·refine AW.exit ?_
     refine ⟨_, (Option.some.inj h2).symm, fun hz => ?_⟩
     subst hz
     exact ⟨_, rfl, ⟨rfl, rfl, rfl, rfl, trivial⟩⟩
   ·rintro s28 rfl l1 hl1
    refine AW.weaken hl1.sub ?_
    refine AW.seq (AW.reg hn hfx rfl ?_)
    refine .cons rfl (r_copy (.inr rfl) rfl rfl) <| .nil ?_
    refine AW.sub [(0, _), (1, _), (4, _), (900000, _), (900001, _)] ⟨rfl, rfl, rfl, rfl, rfl, trivial⟩ ?_
    refine AW.ret ?_
    obtain rfl := Option.some.inj h0
    exact ⟨_, .tmp rfl rfl .nil, ⟨.inl ⟨rfl, rfl⟩, .inr ⟨nofun, rfl⟩, trivial⟩, ⟨rfl, rfl, trivial⟩⟩

theorem W40  {f : (List Int)} {r : Bool} (h0 : impl_anyHom f = some r) : Meets Try.prog 40 [⟨ty38, 0, f⟩] [⟨.bool, 0, r⟩] [⟨ty38, 0, f⟩] := by
 refine Meets.of_body (fn := Try.f40) Try.func40 rfl rfl rfl fun c hn hfx => ?_
 unfold impl_anyHom at h0
 refine AW.seq (AW.reg hn hfx rfl ?_)
 refine .cons rfl (r_copy (.inr rfl) rfl rfl) <| .nil ?_
 refine AW.sub [] trivial ?_
 refine AW.seq (AW.reg hn hfx rfl ?_)
 refine .cons rfl (r_copy (.inr rfl) rfl rfl) <| .nil ?_
 refine AW.sub [(2, _)] ⟨rfl, trivial⟩ ?_
 refine AW.ret ?_
 obtain rfl := Option.some.inj h0
 exact ⟨_, .tmp rfl rfl .nil, .inl ⟨rfl, rfl⟩, trivial⟩

theorem W70_40  {f : (List Int)} {u2v : (Option (List Int))} {r : (Bool × (Option (List Int)))} (h0 : impl_firstHom_1_with_anyHom f u2v = some r) : Meets Try.prog 70 [⟨ty38, 0, f⟩, ⟨(.ptr .raw), 0, (Value.func (Fn.func 40) #[] #[])⟩, ⟨(.ptr (.opt ty38)), 2, u2v⟩] [⟨.bool, 0, r.1⟩] [⟨ty38, 0, f⟩, ⟨(.ptr .raw), 0, (Value.func (Fn.func 40) #[] #[])⟩, ⟨(.ptr (.opt ty38)), 2, r.2⟩] := by
 refine Meets.of_body (fn := Try.f70) Try.func70 rfl rfl rfl fun c hn hfx => ?_
 unfold impl_firstHom_1_with_anyHom at h0
 refine AW.seq (AW.reg hn hfx rfl ?_)
 refine .cons rfl (r_copy (.inr rfl) rfl rfl) <| .nil ?_
 refine AW.sub [(0, _), (1, _), (2, _)] ⟨rfl, rfl, rfl, trivial⟩ ?_
 refine AW.seq ?_
 refine AW.seq (AW.reg hn hfx rfl ?_)
 refine .cons rfl (r_load_shared rfl rfl ok61) <| .cons rfl (r_copy (.inl rfl) rfl rfl) ?_
 obtain ⟨x1, hx1, h0⟩ := bindE h0
 refine .cons rfl (r_callM [] rfl rfl rfl Try.func40 rfl rfl (fun us0 _ => (W40 hx1).toU (us0 ++ [])) (.lend rfl .nil) rfl) <| .nil ?_
 refine AW.sub [(0, _), (2, _), (7, _)] ⟨rfl, rfl, rfl, trivial⟩ ?_
 refine AW.ifP rfl h0 (fun h0 => ?_) (fun h0 => ?_)
 ·refine AW.seq (AW.reg hn hfx rfl ?_)
  refine .cons rfl (r_copy (.inl rfl) rfl rfl) ?_
  obtain ⟨x2, hx2, h0⟩ := bindE h0
  refine .cons rfl (r_call rfl rfl rfl Try.func63 rfl rfl (W63 hx2) rfl) ?_
  obtain ⟨_, hx3, h0⟩ := bindE h0
  refine .cons rfl (r_storeC (v := ⟨(.opt ty38), 1, (some x2)⟩) [] rfl rfl rfl rfl rfl rfl (cast_opt (needE hx3)) rfl rfl ok38opt rfl rfl rfl rfl) <| .nil ?_
  refine AW.sub [(2, _)] ⟨rfl, trivial⟩ ?_
  refine AW.seq (AW.reg hn hfx rfl ?_)
  refine .cons rfl (r_copy (.inr rfl) rfl rfl) <| .nil ?_
  refine AW.sub [(2, _), (4, _)] ⟨rfl, rfl, trivial⟩ ?_
  refine AW.ret ?_
  obtain rfl := Option.some.inj h0
  exact ⟨_, .tmp rfl rfl .nil, .inl ⟨rfl, rfl⟩, .inl ⟨rfl, rfl⟩, .inr ⟨nofun, rfl⟩, trivial⟩
 ·refine AW.skip ?_
  refine AW.seq (AW.reg hn hfx rfl ?_)
  refine .cons rfl (r_copy (.inr rfl) rfl rfl) <| .nil ?_
  refine AW.sub [(2, _), (4, _)] ⟨rfl, rfl, trivial⟩ ?_
  refine AW.ret ?_
  obtain rfl := Option.some.inj h0
  exact ⟨_, .tmp rfl rfl .nil, .inl ⟨rfl, rfl⟩, .inl ⟨rfl, rfl⟩, .inr ⟨nofun, rfl⟩, trivial⟩

end Go.Proofs.Ytoaajjhcdbbfdaa
namespace Go.Proofs.Ytoaajjhcdbbfdaa
open Go.Abs Go.Pure
-- theorem hmix : Try.prog.follows .mixedOrders = true := by kernel_rfl
theorem W91_70 : ∀ (fuel : Nat) {s_0_c0 : Value} {s_0_c1 : Value} {s_l0 : (Int × ((List (Int × ((List Int) × Unit))) × Unit))} {s_l1 : (Int × ((List (Int × ((List Int) × Unit))) × Unit))} {s_l2 : Bool} {s_l3 : Int} {f : (List Int)} {s_0_c1_u2v : (Option (List Int))} {r : (Bool × Int × (Option (List Int)))} (_ : impl_homSearch_extend_with_firstHom_1_with_anyHom fuel s_l0 s_l1 s_l2 s_l3 f s_0_c1_u2v = some r), ∀ us0 : List Value, us0.length = 2 → MeetsU Try.prog 91 (us0 ++ []) [s_0_c0, s_0_c1] ([⟨(.ptr ty91), 1, (s_l0, (s_l1, (s_l2, (s_l3, ((Value.func (Fn.func 70) #[] #[s_0_c0, s_0_c1]), ())))))⟩, ⟨ty38, 0, f⟩] ++ [⟨(.ptr .raw), 0, (Value.func (Fn.func 40) #[] #[])⟩, ⟨(.ptr (.opt ty38)), 2, s_0_c1_u2v⟩]) [⟨.bool, 0, r.1⟩] ([⟨(.ptr ty91), 1, (s_l0, (s_l1, (s_l2, (r.2.1, ((Value.func (Fn.func 70) #[] #[s_0_c0, s_0_c1]), ())))))⟩, ⟨ty38, 0, f⟩] ++ [⟨(.ptr .raw), 0, (Value.func (Fn.func 40) #[] #[])⟩, ⟨(.ptr (.opt ty38)), 2, r.2.2⟩]) := by
 intro fuel
 induction fuel with
 | zero => intro s_0_c0 s_0_c1 s_l0 s_l1 s_l2 s_l3 f s_0_c1_u2v r h0; cases h0
 | succ fuel ih =>
 intro s_0_c0 s_0_c1 s_l0 s_l1 s_l2 s_l3 f s_0_c1_u2v r h0
 intro us0 hus0
 refine match us0, hus0 with | [w0, w1], _ => ?_
 refine MeetsU.of_body (n := 2) rfl (fn := Try.f91) Try.func91 rfl rfl rfl rfl rfl rfl fun c hn hfx hfix => ?_
 have hfix : ∀ p, p ∈ [(0, w0), (1, w1)] → p ∈ c.fix := hfix
 have k0 : (0, w0) ∈ c.fix := hfix _ (.head _)
 have k1 : (1, w1) ∈ c.fix := hfix _ (.tail _ (.head _))
 rw [impl_homSearch_extend_with_firstHom_1_with_anyHom] at h0
 refine AW.seq (AW.reg hn hfx rfl ?_)
 refine .cons rfl (r_copy (.inr rfl) rfl rfl) <| .nil ?_
 refine AW.sub [(0, _), (1, _), (900000, _), (900001, _)] ⟨rfl, rfl, rfl, rfl, trivial⟩ ?_
 refine AW.seq (AW.reg hn hfx rfl ?_)
 refine .cons rfl (r_copy (.inr rfl) rfl rfl) <| .nil ?_
 refine AW.sub [(0, _), (1, _), (5, _), (900000, _), (900001, _)] ⟨rfl, rfl, rfl, rfl, rfl, trivial⟩ ?_
 obtain ⟨z15, h1, h0⟩ := bindE h0
 refine AW.seq (AW.joinJ [(0, _), (1, _), (900000, _), (900001, _)] ⟨rfl, rfl, rfl, rfl, trivial⟩ [(5, .val tInt 0 z15)] ?_ ?_)
 ·refine AW.block ?_
  refine AW.loopP h1 [(0, _), (1, _), (900000, _), (900001, _)] ⟨rfl, rfl, rfl, rfl, trivial⟩ (fun s22 => [(5, .val tInt 0 s22)]) ⟨rfl, rfl, rfl, rfl, rfl, trivial⟩ fun s22 z28 h2 => ?_
  refine AW.seq ?_
  refine AW.sub [(0, _), (1, _), (5, _), (900000, _), (900001, _)] ⟨rfl, rfl, rfl, rfl, rfl, trivial⟩ ?_
  obtain ⟨z25, h3, h2⟩ := bindE h2
  refine AW.seq (AW.joinJ [(0, _), (1, _), (5, _), (900000, _), (900001, _)] ⟨rfl, rfl, rfl, rfl, rfl, trivial⟩ [(18, .val .bool 0 z25)] ?_ ?_)
  ·refine AW.reg hn hfx rfl ?_
   refine .cons rfl (r_copy (.inl rfl) rfl rfl) <| .cons rfl (r_copy (.inl rfl) rfl rfl) <| .cons rfl (r_len rfl rfl ok38 rfl) <| .cons rfl (r_cmp rfl rfl rfl rfl rfl) ?_
   refine RT.sub [(0, _), (1, _), (5, _), (11, _), (900000, _), (900001, _)] ⟨rfl, rfl, rfl, rfl, rfl, rfl, trivial⟩ ?_
   refine .ifP (.inl rfl) rfl rfl h3 (fun h3 => ?_) (fun h3 => ?_)
   ·refine .cons (.inl ⟨_, _, _, rfl, rfl, rfl⟩) (r_copy (.inl rfl) rfl rfl) <| .cons (.inl ⟨_, _, _, rfl, rfl, rfl⟩) (r_copy (.inl rfl) rfl rfl) ?_
    obtain ⟨x26, hx26, h3⟩ := bindE h3
    refine .cons (.inl ⟨_, _, _, rfl, rfl, rfl⟩) (r_index_shared rfl rfl rfl ok38 (idx_nn hx26) (idx_get hx26)) ?_
    refine RT.sub [(0, _), (1, _), (5, _), (12, _), (15, _), (900000, _), (900001, _)] ⟨rfl, rfl, rfl, rfl, rfl, rfl, rfl, trivial⟩ ?_
    refine .cons (.inl ⟨_, _, _, rfl, rfl, rfl⟩) (r_load_shared rfl rfl ok3) <| .cons (.inl ⟨_, _, _, rfl, rfl, rfl⟩) (r_cmp rfl rfl rfl rfl rfl) <| .cons rfl (r_pick_true rfl rfl rfl rfl) <| .nil ?_
    obtain rfl := Option.some.inj h3
    exact ⟨rfl, rfl, rfl, rfl, rfl, rfl, trivial⟩
   ·refine .pass (.inl ⟨_, _, _, rfl, rfl, rfl⟩) <| .pass (.inl ⟨_, _, _, rfl, rfl, rfl⟩) <| .pass (.inl ⟨_, _, _, rfl, rfl, rfl⟩) ?_
    refine RT.sub [(0, _), (1, _), (5, _), (12, _), (15, _), (900000, _), (900001, _)] ⟨rfl, rfl, rfl, rfl, rfl, rfl, rfl, trivial⟩ ?_
    refine .pass (.inl ⟨_, _, _, rfl, rfl, rfl⟩) <| .pass (.inl ⟨_, _, _, rfl, rfl, rfl⟩) <| .cons rfl (r_pick_false rfl rfl rfl rfl) <| .nil ?_
    obtain rfl := Option.some.inj h3
    exact ⟨rfl, rfl, rfl, rfl, rfl, rfl, trivial⟩
  ·intro l1 hl1
   refine AW.weaken hl1.sub ?_
   refine AW.ifP rfl h2 (fun h2 => ?_) (fun h2 => ?_)
   ·refine AW.skip ?_
    refine AW.block ?_
    refine AW.reg hn hfx rfl ?_
    refine .cons rfl (r_copy (.inl rfl) rfl rfl) <| .cons rfl (r_arith rfl rfl rfl rfl rfl) <| .cons rfl (r_copy (.inr rfl) rfl rfl) <| .nil ?_
    exact ⟨_, (Option.some.inj h2).symm, ⟨rfl, rfl, rfl, rfl, rfl, trivial⟩⟩
   ·refine AW.exit ?_
    refine ⟨_, (Option.some.inj h2).symm, fun hz => ?_⟩
    subst hz
    exact ⟨rfl, rfl, rfl, rfl, rfl, trivial⟩
 ·intro l1 hl1
  refine AW.weaken hl1.sub ?_
  refine AW.seq ?_
  refine AW.seq (AW.reg hn hfx rfl ?_)
  refine .cons rfl (r_copy (.inl rfl) rfl rfl) <| .cons rfl (r_copy (.inl rfl) rfl rfl) <| .cons rfl (r_len rfl rfl ok38 rfl) <| .cons rfl (r_cmp rfl rfl rfl rfl rfl) <| .nil ?_
  refine AW.sub [(0, _), (1, _), (5, _), (24, _), (900000, _), (900001, _)] ⟨rfl, rfl, rfl, rfl, rfl, rfl, trivial⟩ ?_
  refine AW.ifP rfl h0 (fun h0 => ?_) (fun h0 => ?_)
  ·refine AW.seq (AW.reg hn hfx rfl ?_)
   refine .cons rfl (r_alias rfl rfl) <| .cons rfl (r_nil rfl rfl rfl) <| .cons rfl (r_field rfl rfl rfl rfl ok91 rfl rfl) <| .cons rfl (r_load rfl rfl rfl rfl ok61 rfl) ?_
   refine RT.sub [(0, _), (1, _), (28, _), (900000, _), (900001, _)] ⟨rfl, rfl, rfl, rfl, rfl, trivial⟩ ?_
   refine .cons rfl (r_copy (.inl rfl) rfl rfl) ?_
   obtain ⟨x30, hx30, h0⟩ := bindE h0
   refine .cons rfl (r_callM [] rfl rfl rfl Try.func70 rfl rfl (fun us0 _ => (W70_40 hx30).toU (us0 ++ [s_0_c0, s_0_c1])) (.lend rfl (.glend (r := 900000) rfl (.gio (r := 900001) rfl .nil))) rfl) <| .cons rfl (r_copy (.inr rfl) rfl rfl) <| .nil ?_
   refine AW.sub [(0, _), (1, _), (4, _), (900000, _), (900001, _)] ⟨rfl, rfl, rfl, rfl, rfl, trivial⟩ ?_
   refine AW.ret ?_
   obtain rfl := Option.some.inj h0
   exact ⟨_, .tmp rfl rfl .nil, ⟨.inr ⟨nofun, rfl⟩, .inl ⟨rfl, rfl⟩, trivial⟩, ⟨rfl, rfl, trivial⟩⟩
  ·refine AW.skip ?_
   refine AW.seq ?_
   refine AW.seq (AW.reg hn hfx rfl ?_)
   refine .cons rfl (r_copy (.inr rfl) rfl rfl) <| .nil ?_
   refine AW.sub [(0, _), (1, _), (5, _), (6, _), (900000, _), (900001, _)] ⟨rfl, rfl, rfl, rfl, rfl, rfl, trivial⟩ ?_
   obtain ⟨z53, h1, h0⟩ := bindE h0
   refine AW.joinX z53 [(1, _), (900000, _)] ⟨rfl, rfl, trivial⟩ (fun s52 => [(0, .val (.ptr ty91) 1 (s_l0, (s_l1, (s_l2, (s52.1, ((Value.func (Fn.func 70) #[] #[s_0_c0, s_0_c1]), ())))))), (900001, .gh s_0_c1 (.ptr (.opt ty38)) 2 s52.2)]) ?_ ?_
   ·refine AW.block ?_
    refine AW.loopP h1 [(1, _), (5, _), (900000, _)] ⟨rfl, rfl, rfl, trivial⟩ (fun s64 => [(0, .val (.ptr ty91) 1 (s_l0, (s_l1, (s_l2, (s64.1, ((Value.func (Fn.func 70) #[] #[s_0_c0, s_0_c1]), ())))))), (6, .val tInt 0 s64.2.1), (900001, .gh s_0_c1 (.ptr (.opt ty38)) 2 s64.2.2)]) ⟨rfl, rfl, rfl, rfl, rfl, rfl, trivial⟩ fun s64 z74 h2 => ?_
    refine AW.seq ?_
    refine AW.seq (AW.reg hn hfx rfl ?_)
    refine .cons rfl (r_copy (.inl rfl) rfl rfl) <| .cons rfl (r_alias rfl rfl) <| .cons rfl (r_nil rfl rfl rfl) <| .cons rfl (r_field rfl rfl rfl rfl ok91 rfl rfl) ?_
    refine RT.sub [(0, _), (1, _), (5, _), (6, _), (31, _), (34, _), (900000, _), (900001, _)] ⟨rfl, rfl, rfl, rfl, rfl, rfl, rfl, rfl, trivial⟩ ?_
    refine .cons rfl (r_field rfl rfl rfl rfl ok26 rfl rfl) <| .cons rfl (r_load rfl rfl rfl rfl ok3 rfl) <| .cons rfl (r_cmp rfl rfl rfl rfl rfl) <| .nil ?_
    refine AW.sub [(0, _), (1, _), (5, _), (6, _), (37, _), (900000, _), (900001, _)] ⟨rfl, rfl, rfl, rfl, rfl, rfl, rfl, trivial⟩ ?_
    refine AW.ifP rfl h2 (fun h2 => ?_) (fun h2 => ?_)
    ·refine AW.skip ?_
     refine AW.seq (AW.block ?_)
     refine AW.seq ?_
     refine AW.seq (AW.reg hn hfx rfl ?_)
     refine .cons rfl (r_alias rfl rfl) <| .cons rfl (r_nil rfl rfl rfl) <| .cons rfl (r_field rfl rfl rfl rfl ok91 rfl rfl) <| .cons rfl (r_load rfl rfl rfl rfl ok3 rfl) ?_
     refine RT.sub [(0, _), (1, _), (5, _), (6, _), (40, _), (43, _), (900000, _), (900001, _)] ⟨rfl, rfl, rfl, rfl, rfl, rfl, rfl, rfl, trivial⟩ ?_
     refine .cons rfl (r_arith rfl rfl rfl rfl rfl) <| .cons rfl (r_nil rfl rfl rfl) <| .cons rfl (r_field rfl rfl rfl rfl ok91 rfl rfl) <| .cons rfl (r_store [] rfl rfl rfl rfl rfl rfl rfl rfl ok3 rfl rfl rfl rfl) <| .nil ?_
     refine AW.sub [(0, _), (1, _), (5, _), (6, _), (900000, _), (900001, _)] ⟨rfl, rfl, rfl, rfl, rfl, rfl, trivial⟩ ?_
     refine AW.seq (AW.reg hn hfx rfl ?_)
     refine .cons rfl (r_alias rfl rfl) <| .cons rfl (r_nil rfl rfl rfl) <| .cons rfl (r_field rfl rfl rfl rfl ok91 rfl rfl) <| .cons rfl (r_load rfl rfl rfl rfl ok3 rfl) ?_
     refine RT.sub [(0, _), (1, _), (5, _), (6, _), (50, _), (900000, _), (900001, _)] ⟨rfl, rfl, rfl, rfl, rfl, rfl, rfl, trivial⟩ ?_
     refine .cons rfl (r_cmp rfl rfl rfl rfl rfl) <| .nil ?_
     refine AW.sub [(0, _), (1, _), (5, _), (6, _), (51, _), (900000, _), (900001, _)] ⟨rfl, rfl, rfl, rfl, rfl, rfl, rfl, trivial⟩ ?_
     refine AW.ifP rfl h2 (fun h2 => ?_) (fun h2 => ?_)
     ·refine AW.seq (AW.reg hn hfx rfl ?_)
      refine .cons rfl (r_copy (.inr rfl) rfl rfl) <| .nil ?_
      refine AW.sub [(0, _), (1, _), (4, _), (900000, _), (900001, _)] ⟨rfl, rfl, rfl, rfl, rfl, trivial⟩ ?_
      refine AW.ret ?_
      refine ⟨_, (Option.some.inj h2).symm, fun hz => ?_⟩
      subst hz
      obtain rfl := Option.some.inj h0
      exact ⟨_, .tmp rfl rfl .nil, ⟨.inr ⟨nofun, rfl⟩, .inl ⟨rfl, rfl⟩, trivial⟩, ⟨rfl, rfl, trivial⟩⟩
     ·refine AW.skip ?_
      refine AW.seq (AW.reg hn hfx rfl ?_)
      refine .cons rfl (r_copy (.inl rfl) rfl rfl) ?_
      obtain ⟨x65, hx65, h2⟩ := bindE h2
      refine .cons rfl (r_call rfl rfl rfl Try.func63 rfl rfl (W63 hx65) rfl) <| .cons rfl (r_assign [] (.inl rfl) rfl rfl) <| .nil ?_
      refine AW.sub [(0, _), (1, _), (5, _), (6, _), (7, _), (900000, _), (900001, _)] ⟨rfl, rfl, rfl, rfl, rfl, rfl, rfl, trivial⟩ ?_
      refine AW.seq (AW.reg hn hfx rfl ?_)
      refine .cons rfl (r_alias rfl rfl) <| .cons rfl (r_copy (.inl rfl) rfl rfl) <| .cons rfl (r_copy (.inl rfl) rfl rfl) ?_
      obtain ⟨x66, hx66, h2⟩ := bindE h2
      refine .cons rfl (r_index_own rfl rfl rfl rfl rfl ok38 (idx_nn hx66) (idx_lt hx66)) ?_
      refine RT.sub [(0, _), (1, _), (5, _), (6, _), (7, _), (56, _), (57, _), (900000, _), (900001, _)] ⟨rfl, rfl, rfl, rfl, rfl, rfl, rfl, rfl, rfl, trivial⟩ ?_
      refine .cons rfl (r_store [] rfl rfl rfl rfl rfl rfl rfl (sub_app rfl (sub_e (idx_get hx66))) ok3 rfl rfl rfl (repl_app rfl (repl_e (idx_get hx66)) rfl)) <| .nil ?_
      refine AW.sub [(0, _), (1, _), (5, _), (6, _), (7, _), (900000, _), (900001, _)] ⟨rfl, rfl, rfl, rfl, rfl, rfl, rfl, trivial⟩ ?_
      obtain ⟨z70, h3, h2⟩ := bindE h2
      refine AW.seq (AW.joinJ [(1, _), (5, _), (6, _), (900000, _)] ⟨rfl, rfl, rfl, rfl, trivial⟩ [(0, .val (.ptr ty91) 1 (s_l0, (s_l1, (s_l2, (z70.1, ((Value.func (Fn.func 70) #[] #[s_0_c0, s_0_c1]), ())))))), (66, .val .bool 0 z70.2.1), (900001, .gh s_0_c1 (.ptr (.opt ty38)) 2 z70.2.2)] ?_ ?_)
      ·refine AW.reg hn hfx rfl ?_
       refine .cons rfl (r_alias rfl rfl) <| .cons rfl (r_alias rfl rfl) ?_
       obtain ⟨x71, hx71, h3⟩ := bindE h3
       refine .cons rfl (r_callM [s_0_c0, s_0_c1] rfl rfl rfl Try.func90 rfl rfl (W90_70 (s_0_c0 := s_0_c0) (s_0_c1 := s_0_c1) hx71) (.lend rfl (.io rfl (.glend (r := 900000) rfl (.gio (r := 900001) rfl .nil)))) rfl) ?_
       refine .ifP (.inl rfl) rfl rfl h3 (fun h3 => ?_) (fun h3 => ?_)
       ·refine RT.sub [(0, _), (1, _), (5, _), (6, _), (7, _), (61, _), (900000, _), (900001, _)] ⟨rfl, rfl, rfl, rfl, rfl, rfl, rfl, rfl, trivial⟩ ?_
        refine .cons (.inl ⟨_, _, _, rfl, rfl, rfl⟩) (r_alias rfl rfl) <| .cons (.inl ⟨_, _, _, rfl, rfl, rfl⟩) (r_alias rfl rfl) ?_
        refine RT.lower 7 0 rfl ?_
        obtain ⟨x72, hx72, h3⟩ := bindE h3
        refine .cons (.inl ⟨_, _, _, rfl, rfl, rfl⟩) (r_callM [s_0_c0, s_0_c1] rfl rfl rfl Try.func91 rfl rfl (ih (s_0_c0 := s_0_c0) (s_0_c1 := s_0_c1) hx72) (.io rfl (.lend rfl (.glend (r := 900000) rfl (.gio (r := 900001) rfl .nil)))) rfl) <| .cons (.inl ⟨_, _, _, rfl, rfl, rfl⟩) (r_not rfl rfl rfl) ?_
        refine RT.sub [(0, _), (1, _), (5, _), (6, _), (61, _), (65, _), (900000, _), (900001, _)] ⟨rfl, rfl, rfl, rfl, rfl, rfl, rfl, rfl, trivial⟩ ?_
        refine .cons rfl (r_pick_true rfl rfl rfl rfl) <| .nil ?_
        obtain rfl := Option.some.inj h3
        exact ⟨rfl, rfl, rfl, rfl, rfl, rfl, rfl, trivial⟩
       ·refine RT.sub [(0, _), (1, _), (5, _), (6, _), (7, _), (61, _), (900000, _), (900001, _)] ⟨rfl, rfl, rfl, rfl, rfl, rfl, rfl, rfl, trivial⟩ ?_
        refine .pass (.inl ⟨_, _, _, rfl, rfl, rfl⟩) <| .pass (.inl ⟨_, _, _, rfl, rfl, rfl⟩) <| .pass (.inl ⟨_, _, _, rfl, rfl, rfl⟩) <| .pass (.inl ⟨_, _, _, rfl, rfl, rfl⟩) ?_
        refine RT.sub [(0, _), (1, _), (5, _), (6, _), (61, _), (65, _), (900000, _), (900001, _)] ⟨rfl, rfl, rfl, rfl, rfl, rfl, rfl, rfl, trivial⟩ ?_
        refine .cons rfl (r_pick_false rfl rfl rfl rfl) <| .nil ?_
        obtain rfl := Option.some.inj h3
        exact ⟨rfl, rfl, rfl, rfl, rfl, rfl, rfl, trivial⟩
      ·intro l1 hl1
       refine AW.weaken hl1.sub ?_
       refine AW.ifP rfl h2 (fun h2 => ?_) (fun h2 => ?_)
       ·refine AW.seq (AW.reg hn hfx rfl ?_)
        refine .cons rfl (r_copy (.inr rfl) rfl rfl) <| .nil ?_
        refine AW.sub [(0, _), (1, _), (4, _), (900000, _), (900001, _)] ⟨rfl, rfl, rfl, rfl, rfl, trivial⟩ ?_
        refine AW.ret ?_
        refine ⟨_, (Option.some.inj h2).symm, fun hz => ?_⟩
        subst hz
        obtain rfl := Option.some.inj h0
        exact ⟨_, .tmp rfl rfl .nil, ⟨.inr ⟨nofun, rfl⟩, .inl ⟨rfl, rfl⟩, trivial⟩, ⟨rfl, rfl, trivial⟩⟩
       ·refine AW.skip ?_
        refine AW.reg hn hfx rfl ?_
        refine .cons rfl (r_copy (.inl rfl) rfl rfl) <| .cons rfl (r_arith rfl rfl rfl rfl rfl) <| .cons rfl (r_copy (.inr rfl) rfl rfl) <| .nil ?_
        exact ⟨_, (Option.some.inj h2).symm, ⟨rfl, rfl, rfl, rfl, rfl, rfl, trivial⟩⟩
    ·refine AW.exit ?_
     refine ⟨_, (Option.some.inj h2).symm, fun hz => ?_⟩
     subst hz
     exact ⟨_, rfl, ⟨rfl, rfl, rfl, rfl, trivial⟩⟩
   ·rintro s52 rfl l1 hl1
    refine AW.weaken hl1.sub ?_
    refine AW.seq (AW.reg hn hfx rfl ?_)
    refine .cons rfl (r_copy (.inr rfl) rfl rfl) <| .nil ?_
    refine AW.sub [(0, _), (1, _), (4, _), (900000, _), (900001, _)] ⟨rfl, rfl, rfl, rfl, rfl, trivial⟩ ?_
    refine AW.ret ?_
    obtain rfl := Option.some.inj h0
    exact ⟨_, .tmp rfl rfl .nil, ⟨.inr ⟨nofun, rfl⟩, .inl ⟨rfl, rfl⟩, trivial⟩, ⟨rfl, rfl, trivial⟩⟩

theorem W69_70 {found_c0 : Value} {found_c1 : Value} {a : (Int × ((List (Int × ((List Int) × Unit))) × Unit))} {b : (Int × ((List (Int × ((List Int) × Unit))) × Unit))} {embed : Bool} {found_c1_u2v : (Option (List Int))} {r : (Bool × (Option (List Int)))} (h0 : impl_searchHoms_with_firstHom_1_with_anyHom a b embed found_c1_u2v = some r) : ∀ us0 : List Value, us0.length = 4 → MeetsU Try.prog 69 (us0 ++ []) [found_c0, found_c1] ([⟨ty26, 0, a⟩, ⟨ty26, 0, b⟩, ⟨.bool, 0, embed⟩, ⟨.raw, 0, (Value.func (Fn.func 70) #[] #[found_c0, found_c1])⟩] ++ [⟨(.ptr .raw), 0, (Value.func (Fn.func 40) #[] #[])⟩, ⟨(.ptr (.opt ty38)), 2, found_c1_u2v⟩]) [⟨.bool, 0, r.1⟩] ([⟨ty26, 0, a⟩, ⟨ty26, 0, b⟩, ⟨.bool, 0, embed⟩, ⟨.raw, 0, (Value.func (Fn.func 70) #[] #[found_c0, found_c1])⟩] ++ [⟨(.ptr .raw), 0, (Value.func (Fn.func 40) #[] #[])⟩, ⟨(.ptr (.opt ty38)), 2, r.2⟩]) := by
 intro us0 hus0
 refine match us0, hus0 with | [w0, w1, w2, w3], _ => ?_
 refine MeetsU.of_body (n := 4) rfl (fn := Try.f69) Try.func69 rfl rfl rfl rfl rfl rfl fun c hn hfx hfix => ?_
 have hfix : ∀ p, p ∈ [(0, w0), (1, w1), (2, w2), (3, w3)] → p ∈ c.fix := hfix
 have k0 : (0, w0) ∈ c.fix := hfix _ (.head _)
 have k1 : (1, w1) ∈ c.fix := hfix _ (.tail _ (.head _))
 have k2 : (2, w2) ∈ c.fix := hfix _ (.tail _ (.tail _ (.head _)))
 have k3 : (3, w3) ∈ c.fix := hfix _ (.tail _ (.tail _ (.tail _ (.head _))))
 unfold impl_searchHoms_with_firstHom_1_with_anyHom at h0
 refine AW.seq (AW.reg hn hfx rfl ?_)
 refine .cons rfl (r_box [] rfl rfl rfl) <| .cons rfl (r_box [] rfl rfl rfl) <| .cons rfl (r_copy (.inr rfl) rfl rfl) <| .nil ?_
 refine AW.sub [(0, _), (1, _), (2, _), (3, _), (4, _), (5, _), (900000, _), (900001, _)] ⟨rfl, rfl, rfl, rfl, rfl, rfl, rfl, rfl, trivial⟩ ?_
 refine AW.seq (AW.reg hn hfx rfl ?_)
 refine .cons rfl (r_load rfl rfl rfl rfl ok26 rfl) <| .cons rfl (r_load rfl rfl rfl rfl ok26 rfl) <| .cons rfl (r_copy (.inl rfl) rfl rfl) <| .cons rfl (r_copy (.inl rfl) rfl rfl) ?_
 refine RT.sub [(0, _), (1, _), (2, _), (3, _), (4, _), (12, _), (13, _), (14, _), (15, _), (900000, _), (900001, _)] ⟨rfl, rfl, rfl, rfl, rfl, rfl, rfl, rfl, rfl, rfl, rfl, trivial⟩ ?_
 refine .cons rfl (r_build [] rfl rfl rfl ok91 ⟨_, _, rfl⟩ rfl rfl (mc := 0)) <| .cons rfl (r_box [] rfl rfl rfl) <| .cons rfl (r_assign [] (.inl rfl) rfl rfl) <| .nil ?_
 refine AW.sub [(0, _), (1, _), (2, _), (3, _), (4, _), (9, _), (900000, _), (900001, _)] ⟨rfl, rfl, rfl, rfl, rfl, rfl, rfl, rfl, trivial⟩ ?_
 refine AW.seq (AW.reg hn hfx rfl ?_)
 refine .cons rfl (r_field rfl rfl rfl rfl ok26 rfl rfl) <| .cons rfl (r_load rfl rfl rfl rfl ok3 rfl) ?_
 obtain ⟨x1, hx1, h0⟩ := bindE h0
 refine .cons rfl (r_mkS rfl rfl rfl ok38 rfl hx1) <| .cons rfl (r_assign [] (.inl rfl) rfl rfl) <| .nil ?_
 refine AW.sub [(0, _), (1, _), (2, _), (3, _), (9, _), (10, _), (900000, _), (900001, _)] ⟨rfl, rfl, rfl, rfl, rfl, rfl, rfl, rfl, trivial⟩ ?_
 refine AW.seq ?_
 refine AW.seq (AW.reg hn hfx rfl ?_)
 refine .cons rfl (r_alias rfl rfl) <| .cons rfl (r_len_own rfl rfl rfl rfl ok38 rfl) <| .cons rfl (r_copy (.inl rfl) rfl rfl) <| .nil ?_
 refine AW.sub [(0, _), (1, _), (2, _), (3, _), (9, _), (10, _), (22, _), (23, _), (900000, _), (900001, _)] ⟨rfl, rfl, rfl, rfl, rfl, rfl, rfl, rfl, rfl, rfl, trivial⟩ ?_
 obtain ⟨z8, h1, h0⟩ := bindE h0
 refine AW.joinJ [(0, _), (1, _), (2, _), (3, _), (9, _), (900000, _), (900001, _)] ⟨rfl, rfl, rfl, rfl, rfl, rfl, rfl, trivial⟩ [(10, .val ty38 1 z8)] ?_ ?_
 ·refine AW.block ?_
  refine AW.loopP h1 [(0, _), (1, _), (2, _), (3, _), (9, _), (22, _), (900000, _), (900001, _)] ⟨rfl, rfl, rfl, rfl, rfl, rfl, rfl, rfl, trivial⟩ (fun s11 => [(10, .val ty38 1 s11.1), (23, .val tInt 0 s11.2)]) ⟨rfl, rfl, rfl, rfl, rfl, rfl, rfl, rfl, rfl, rfl, trivial⟩ fun s11 z13 h2 => ?_
  refine AW.seq (AW.reg hn hfx rfl ?_)
  refine .cons rfl (r_cmp rfl rfl rfl rfl rfl) <| .nil ?_
  refine AW.sub [(0, _), (1, _), (2, _), (3, _), (9, _), (10, _), (22, _), (23, _), (24, _), (900000, _), (900001, _)] ⟨rfl, rfl, rfl, rfl, rfl, rfl, rfl, rfl, rfl, rfl, rfl, trivial⟩ ?_
  refine AW.seq (AW.ifP rfl h2 (fun h2 => ?_) (fun h2 => ?_))
  ·refine AW.skip ?_
   refine AW.seq (AW.block ?_)
   refine AW.seq (AW.reg hn hfx rfl ?_)
   refine .cons rfl (r_copy (.inl rfl) rfl rfl) <| .cons rfl (r_copy (.inr rfl) rfl rfl) <| .nil ?_
   refine AW.sub [(0, _), (1, _), (2, _), (3, _), (9, _), (10, _), (11, _), (22, _), (23, _), (900000, _), (900001, _)] ⟨rfl, rfl, rfl, rfl, rfl, rfl, rfl, rfl, rfl, rfl, rfl, trivial⟩ ?_
   refine AW.reg hn hfx rfl ?_
   refine .cons rfl (r_alias rfl rfl) <| .cons rfl (r_copy (.inl rfl) rfl rfl) ?_
   obtain ⟨x12, hx12, h2⟩ := bindE h2
   refine .cons rfl (r_index_own rfl rfl rfl rfl rfl ok38 (idx_nn hx12) (idx_lt hx12)) <| .cons rfl (r_store [] rfl rfl rfl rfl rfl rfl rfl (sub_app rfl (sub_e (idx_get hx12))) ok3 rfl rfl rfl (repl_app rfl (repl_e (idx_get hx12)) rfl)) <| .nil ?_
   refine AW.sub [(0, _), (1, _), (2, _), (3, _), (9, _), (10, _), (22, _), (23, _), (900000, _), (900001, _)] ⟨rfl, rfl, rfl, rfl, rfl, rfl, rfl, rfl, rfl, rfl, trivial⟩ ?_
   refine AW.reg hn hfx rfl ?_
   refine .cons rfl (r_arith rfl rfl rfl rfl rfl) <| .cons rfl (r_copy (.inl rfl) rfl rfl) <| .nil ?_
   exact ⟨_, (Option.some.inj h2).symm, ⟨rfl, rfl, rfl, rfl, rfl, rfl, rfl, rfl, rfl, rfl, trivial⟩⟩
  ·refine AW.exit ?_
   refine ⟨_, (Option.some.inj h2).symm, fun hz => ?_⟩
   subst hz
   exact ⟨rfl, rfl, rfl, rfl, rfl, rfl, rfl, rfl, trivial⟩
 ·intro l1 hl1
  refine AW.weaken hl1.sub ?_
  refine AW.seq ?_
  refine AW.seq (AW.reg hn hfx rfl ?_)
  refine .cons rfl (r_alias rfl rfl) <| .cons rfl (r_alias rfl rfl) ?_
  obtain ⟨x15, hx15, h0⟩ := bindE h0
  refine .cons rfl (r_callM [found_c0, found_c1] rfl rfl rfl Try.func90 rfl rfl (W90_70 (s_0_c0 := found_c0) (s_0_c1 := found_c1) hx15) (.lend rfl (.io rfl (.glend (r := 900000) rfl (.gio (r := 900001) rfl .nil)))) rfl) <| .nil ?_
  refine AW.sub [(0, _), (1, _), (2, _), (3, _), (9, _), (10, _), (32, _), (900000, _), (900001, _)] ⟨rfl, rfl, rfl, rfl, rfl, rfl, rfl, rfl, rfl, trivial⟩ ?_
  obtain ⟨z18, h1, h0⟩ := bindE h0
  refine AW.joinJ [(0, _), (1, _), (2, _), (3, _), (900000, _)] ⟨rfl, rfl, rfl, rfl, rfl, trivial⟩ [(9, .val (.ptr ty91) 1 (a, (b, (embed, (z18.1, ((Value.func (Fn.func 70) #[] #[found_c0, found_c1]), ())))))), (900001, .gh found_c1 (.ptr (.opt ty38)) 2 z18.2)] ?_ ?_
  ·refine AW.ifP rfl h1 (fun h1 => ?_) (fun h1 => ?_)
   ·refine AW.reg hn hfx rfl ?_
    refine .cons rfl (r_alias rfl rfl) <| .cons rfl (r_alias rfl rfl) ?_
    refine RT.lower 10 0 rfl ?_
    obtain ⟨x19, hx19, h1⟩ := bindE h1
    refine .cons rfl (r_callM [found_c0, found_c1] rfl rfl rfl Try.func91 rfl rfl (W91_70 30 (s_0_c0 := found_c0) (s_0_c1 := found_c1) hx19) (.io rfl (.lend rfl (.glend (r := 900000) rfl (.gio (r := 900001) rfl .nil)))) rfl) <| .nil ?_
    obtain rfl := Option.some.inj h1
    exact ⟨rfl, rfl, rfl, rfl, rfl, rfl, rfl, trivial⟩
   ·refine AW.skip ?_
    obtain rfl := Option.some.inj h1
    exact ⟨rfl, rfl, rfl, rfl, rfl, rfl, rfl, trivial⟩
  ·intro l1 hl1
   refine AW.weaken hl1.sub ?_
   refine AW.seq (AW.reg hn hfx rfl ?_)
   refine .cons rfl (r_alias rfl rfl) <| .cons rfl (r_nil rfl rfl rfl) <| .cons rfl (r_field rfl rfl rfl rfl ok91 rfl rfl) <| .cons rfl (r_load rfl rfl rfl rfl ok3 rfl) ?_
   refine RT.sub [(0, _), (1, _), (2, _), (3, _), (39, _), (900000, _), (900001, _)] ⟨rfl, rfl, rfl, rfl, rfl, rfl, rfl, trivial⟩ ?_
   refine .cons rfl (r_cmp rfl rfl rfl rfl rfl) <| .cons rfl (r_copy (.inr rfl) rfl rfl) <| .nil ?_
   refine AW.sub [(0, _), (1, _), (2, _), (3, _), (8, _), (900000, _), (900001, _)] ⟨rfl, rfl, rfl, rfl, rfl, rfl, rfl, trivial⟩ ?_
   refine AW.ret ?_
   obtain rfl := Option.some.inj h0
   exact ⟨_, .tmp rfl rfl .nil, ⟨.inl ⟨rfl, rfl⟩, .inl ⟨rfl, rfl⟩, .inl ⟨rfl, rfl⟩, .inl ⟨rfl, rfl⟩, trivial⟩, ⟨rfl, rfl, trivial⟩⟩

theorem W39_40  {a : (Int × ((List (Int × ((List Int) × Unit))) × Unit))} {b : (Int × ((List (Int × ((List Int) × Unit))) × Unit))} {embed : Bool} {r : ((Option (List Int)) × Bool)} (h0 : impl_firstHom_with_anyHom a b embed = some r) : Meets Try.prog 39 [⟨ty26, 0, a⟩, ⟨ty26, 0, b⟩, ⟨.bool, 0, embed⟩, ⟨.raw, 0, (Value.func (Fn.func 40) #[] #[])⟩] [⟨(.opt ty38), 1, r.1⟩, ⟨.bool, 0, r.2⟩] [⟨ty26, 0, a⟩, ⟨ty26, 0, b⟩, ⟨.bool, 0, embed⟩, ⟨.raw, 0, (Value.func (Fn.func 40) #[] #[])⟩] := by
 refine Meets.of_body (fn := Try.f39) Try.func39 rfl rfl rfl fun c hn hfx => ?_
 unfold impl_firstHom_with_anyHom at h0
 refine AW.seq (AW.reg hn hfx rfl ?_)
 refine .cons rfl (r_box [] rfl rfl rfl) <| .cons rfl (r_box [] rfl rfl rfl) <| .cons rfl (r_box [] rfl rfl rfl) <| .cons rfl (r_nilS (m := 1) (.inr rfl) ok38) ?_
 refine RT.sub [(2, _), (4, _), (5, _), (7, _)] ⟨rfl, rfl, rfl, rfl, trivial⟩ ?_
 refine .cons rfl (r_copy (.inr rfl) rfl rfl) <| .nil ?_
 refine AW.sub [(2, _), (4, _), (5, _), (7, _)] ⟨rfl, rfl, rfl, rfl, trivial⟩ ?_
 refine AW.seq (AW.reg hn hfx rfl ?_)
 refine .cons rfl (r_alloc rfl ok38opt rfl) <| .nil ?_
 refine AW.sub [(2, _), (4, _), (5, _), (7, _), (10, _)] ⟨rfl, rfl, rfl, rfl, rfl, trivial⟩ ?_
 refine AW.know 7 hn hfx rfl fun u7_ c hn hfx k7 hm => ?_
 refine AW.know 10 hn hfx rfl fun u10_ c hn hfx k10 hm => ?_
 replace k7 := hm _ k7
 refine AW.seq (AW.reg hn hfx rfl ?_)
 refine .cons rfl (r_load rfl rfl rfl rfl ok26 rfl) <| .cons rfl (r_load rfl rfl rfl rfl ok26 rfl) <| .cons rfl (r_copy (.inl rfl) rfl rfl) <| .cons rfl (r_mkfun (vs := [u7_, u10_]) rfl ⟨k7, k10, trivial⟩) ?_
 refine RT.sub [(7, _), (10, _), (12, _), (13, _), (14, _), (15, _)] ⟨rfl, rfl, rfl, rfl, rfl, rfl, trivial⟩ ?_
 obtain ⟨x1, hx1, h0⟩ := bindE h0
 refine .cons rfl (r_callM [u7_, u10_] rfl rfl rfl Try.func69 rfl rfl (W69_70 (found_c0 := u7_) (found_c1 := u10_) hx1) (.lend rfl (.lend rfl (.lend rfl (.lend rfl (.klend rfl k7 (.kio rfl k10 .nil)))))) rfl) <| .cons rfl (r_copy (.inr rfl) rfl rfl) <| .nil ?_
 refine AW.sub [(7, _), (10, _), (11, _)] ⟨rfl, rfl, rfl, trivial⟩ ?_
 refine AW.seq (AW.reg hn hfx rfl ?_)
 refine .cons rfl (r_load_ref rfl rfl rfl rfl ok38opt) <| .cons rfl (r_copy (.inl rfl) rfl rfl) <| .cons rfl (r_assign [17] (.inl rfl) rfl rfl) <| .cons rfl (r_copy (.inr rfl) rfl rfl) <| .nil ?_
 refine AW.sub [(7, _), (8, _), (9, _)] ⟨rfl, rfl, rfl, trivial⟩ ?_
 refine AW.ret ?_
 obtain rfl := Option.some.inj h0
 exact ⟨_, .tmp rfl rfl (.tmp rfl rfl .nil), .inl ⟨rfl, rfl⟩, .inl ⟨rfl, rfl⟩, .inl ⟨rfl, rfl⟩, .inl ⟨rfl, rfl⟩, trivial⟩

theorem W9  {a : (Int × ((List (Int × ((List Int) × Unit))) × Unit))} {b : (Int × ((List (Int × ((List Int) × Unit))) × Unit))} {r : (Bool × Bool)} (h0 : impl_AreIsomorphic a b = some r) : Meets Try.prog 9 [⟨ty26, 0, a⟩, ⟨ty26, 0, b⟩] [⟨.bool, 0, r.1⟩, ⟨.bool, 0, r.2⟩] [⟨ty26, 0, a⟩, ⟨ty26, 0, b⟩] := by
 refine Meets.of_body (fn := Try.f9) Try.func9 rfl rfl rfl fun c hn hfx => ?_
 unfold impl_AreIsomorphic at h0
 refine AW.seq (AW.reg hn hfx rfl ?_)
 refine .cons rfl (r_box [] rfl rfl rfl) <| .cons rfl (r_box [] rfl rfl rfl) <| .cons rfl (r_copy (.inr rfl) rfl rfl) <| .cons rfl (r_copy (.inr rfl) rfl rfl) <| .nil ?_
 refine AW.sub [(2, _), (3, _)] ⟨rfl, rfl, trivial⟩ ?_
 refine AW.seq ?_
 refine AW.seq (AW.reg hn hfx rfl ?_)
 refine .cons rfl (r_load rfl rfl rfl rfl ok26 rfl) <| .cons rfl (r_load rfl rfl rfl rfl ok26 rfl) ?_
 obtain ⟨x1, hx1, h0⟩ := bindE h0
 refine .cons rfl (r_call rfl rfl rfl Try.func38 rfl rfl (W38 hx1) rfl) <| .cons rfl (r_not rfl rfl rfl) <| .nil ?_
 refine AW.sub [(2, _), (3, _), (11, _)] ⟨rfl, rfl, rfl, trivial⟩ ?_
 refine AW.ifP rfl h0 (fun h0 => ?_) (fun h0 => ?_)
 ·refine AW.seq (AW.reg hn hfx rfl ?_)
  refine .cons rfl (r_copy (.inr rfl) rfl rfl) <| .cons rfl (r_copy (.inr rfl) rfl rfl) <| .nil ?_
  refine AW.sub [(4, _), (5, _)] ⟨rfl, rfl, trivial⟩ ?_
  refine AW.ret ?_
  obtain rfl := Option.some.inj h0
  exact ⟨_, .tmp rfl rfl (.tmp rfl rfl .nil), .inl ⟨rfl, rfl⟩, .inl ⟨rfl, rfl⟩, trivial⟩
 ·refine AW.skip ?_
  refine AW.seq ?_
  refine AW.seq (AW.reg hn hfx rfl ?_)
  refine .cons rfl (r_field rfl rfl rfl rfl ok26 rfl rfl) <| .cons rfl (r_load rfl rfl rfl rfl ok3 rfl) <| .cons rfl (r_field rfl rfl rfl rfl ok26 rfl rfl) <| .cons rfl (r_load rfl rfl rfl rfl ok3 rfl) ?_
  refine RT.sub [(2, _), (3, _), (13, _), (15, _)] ⟨rfl, rfl, rfl, rfl, trivial⟩ ?_
  refine .cons rfl (r_cmp rfl rfl rfl rfl rfl) <| .nil ?_
  refine AW.sub [(2, _), (3, _), (16, _)] ⟨rfl, rfl, rfl, trivial⟩ ?_
  refine AW.ifP rfl h0 (fun h0 => ?_) (fun h0 => ?_)
  ·refine AW.seq (AW.reg hn hfx rfl ?_)
   refine .cons rfl (r_copy (.inr rfl) rfl rfl) <| .cons rfl (r_copy (.inr rfl) rfl rfl) <| .nil ?_
   refine AW.sub [(4, _), (5, _)] ⟨rfl, rfl, trivial⟩ ?_
   refine AW.ret ?_
   obtain rfl := Option.some.inj h0
   exact ⟨_, .tmp rfl rfl (.tmp rfl rfl .nil), .inl ⟨rfl, rfl⟩, .inl ⟨rfl, rfl⟩, trivial⟩
  ·refine AW.skip ?_
   refine AW.seq (AW.reg hn hfx rfl ?_)
   refine .cons rfl (r_load rfl rfl rfl rfl ok26 rfl) <| .cons rfl (r_load rfl rfl rfl rfl ok26 rfl) ?_
   obtain ⟨x2, hx2, h0⟩ := bindE h0
   refine .cons rfl (r_call rfl rfl rfl Try.func39 rfl rfl (W39_40 hx2) rfl) <| .cons rfl (r_moveTup (.inl rfl) rfl) ?_
   refine RT.sub [(17, _)] ⟨rfl, trivial⟩ ?_
   refine .cons rfl (r_extract rfl rfl rfl) <| .cons rfl (r_extract_copy rfl rfl rfl rfl) <| .cons rfl (r_assign [] (.inl rfl) rfl rfl) <| .cons rfl (r_copy (.inr rfl) rfl rfl) <| .nil ?_
   refine AW.sub [(6, _), (7, _)] ⟨rfl, rfl, trivial⟩ ?_
   obtain ⟨z4, h1, h0⟩ := bindE h0
   refine AW.seq (AW.joinJ [] trivial [(4, .val .bool 0 z4.1), (5, .val .bool 0 z4.2)] ?_ ?_)
   ·refine AW.reg hn hfx rfl ?_
    refine .cons rfl (r_copy (.inl rfl) rfl rfl) ?_
    refine .ifP (.inl rfl) rfl rfl h1 (fun h1 => ?_) (fun h1 => ?_)
    ·refine .cons (.inl ⟨_, _, _, rfl, rfl, rfl⟩) (r_alias rfl rfl) <| .cons (.inl ⟨_, _, _, rfl, rfl, rfl⟩) (r_cmpNil rfl rfl rfl rfl ok38opt rfl rfl) ?_
     refine RT.sub [(7, _), (24, _), (26, _)] ⟨rfl, rfl, rfl, trivial⟩ ?_
     refine .cons rfl (r_pick_true rfl rfl rfl rfl) <| .cons rfl (r_copy (.inl rfl) rfl rfl) <| .cons rfl (r_copy (.inr rfl) rfl rfl) <| .cons rfl (r_copy (.inr rfl) rfl rfl) <| .nil ?_
     obtain rfl := Option.some.inj h1
     exact ⟨rfl, rfl, trivial⟩
    ·refine .pass (.inl ⟨_, _, _, rfl, rfl, rfl⟩) <| .pass (.inl ⟨_, _, _, rfl, rfl, rfl⟩) ?_
     refine RT.sub [(7, _), (24, _), (26, _)] ⟨rfl, rfl, rfl, trivial⟩ ?_
     refine .cons rfl (r_pick_false rfl rfl rfl rfl) <| .cons rfl (r_copy (.inl rfl) rfl rfl) <| .cons rfl (r_copy (.inr rfl) rfl rfl) <| .cons rfl (r_copy (.inr rfl) rfl rfl) <| .nil ?_
     obtain rfl := Option.some.inj h1
     exact ⟨rfl, rfl, trivial⟩
   ·intro l1 hl1
    refine AW.weaken hl1.sub ?_
    refine AW.ret ?_
    obtain rfl := Option.some.inj h0
    exact ⟨_, .tmp rfl rfl (.tmp rfl rfl .nil), .inl ⟨rfl, rfl⟩, .inl ⟨rfl, rfl⟩, trivial⟩

theorem W71  {names : (List Int)} {u1v : (Int × ((List (Int × ((List Int) × Unit))) × Unit))} {u2v : (List (List Int))} {r : (List (List Int))} (h0 : impl_symmetries_1 names u1v u2v = some r) : Meets Try.prog 71 [⟨ty38, 0, names⟩, ⟨(.ptr ty26), 0, u1v⟩, ⟨(.ptr ty31), 3, u2v⟩] [] [⟨ty38, 0, names⟩, ⟨(.ptr ty26), 0, u1v⟩, ⟨(.ptr ty31), 3, r⟩] := by
 refine Meets.of_body (fn := Try.f71) Try.func71 rfl rfl rfl fun c hn hfx => ?_
 unfold impl_symmetries_1 at h0
 refine AW.seq (AW.draw hmix hn hfx rfl rfl ?_)
 refine .cons rfl (r_load_shared rfl rfl ok26) rfl rfl rfl <| .cons rfl (r_copy (.inl rfl) rfl rfl) rfl rfl rfl ?_
 obtain ⟨x1, hx1, h0⟩ := bindE h0
 refine .cons rfl (r_call rfl rfl rfl Try.func49 rfl rfl (W49 hx1) rfl) rfl rfl rfl <| .cons rfl (r_load_shared rfl rfl ok26) rfl rfl rfl ?_
 refine DT.eq [(7, _), (6, _), (5, _), (4, _), (0, _), (1, _), (2, _)] rfl ?_
 obtain ⟨x2, hx2, h0⟩ := bindE h0
 refine .cons rfl (r_call rfl rfl rfl Try.func31 rfl rfl (W31 hx2) rfl) rfl rfl rfl <| .nil rfl ?_
 refine AW.sub [(0, _), (2, _), (8, _)] ⟨rfl, rfl, rfl, trivial⟩ ?_
 refine AW.ifP rfl h0 (fun h0 => ?_) (fun h0 => ?_)
 ·refine AW.draw hmix hn hfx rfl rfl ?_
  refine .cons rfl (r_load_ref rfl rfl rfl rfl ok31) rfl rfl rfl <| .cons rfl (r_copy (.inl rfl) rfl rfl) rfl rfl rfl ?_
  obtain ⟨x3, hx3, h0⟩ := bindE h0
  refine .cons rfl (r_call rfl rfl rfl Try.func63 rfl rfl (W63 hx3) rfl) rfl rfl rfl <| .cons rfl (r_buildSlice [] (e := ty38) (mc := 1) rfl rfl rfl ok31 rfl rfl rfl) rfl rfl rfl ?_
  refine DT.eq [(12, _), (10, _), (9, _), (0, _), (2, _), (8, _)] rfl ?_
  obtain ⟨x4, hx4, h0⟩ := bindE h0
  refine .cons rfl (r_append [] rfl rfl rfl ok31 rfl (mr := 1) rfl rfl (app_len hx4) (app_eq hx4)) rfl rfl rfl <| .cons rfl (r_store [] rfl rfl rfl rfl rfl rfl rfl rfl ok31 rfl rfl rfl rfl) rfl rfl rfl <| .nil rfl ?_
  obtain rfl := Option.some.inj h0
  exact ⟨_, .nil, .inl ⟨rfl, rfl⟩, .inl ⟨rfl, rfl⟩, .inr ⟨nofun, rfl⟩, trivial⟩
 ·refine AW.skip ?_
  obtain rfl := Option.some.inj h0
  exact ⟨_, .nil, .inl ⟨rfl, rfl⟩, .inl ⟨rfl, rfl⟩, .inr ⟨nofun, rfl⟩, trivial⟩

theorem W85_71 : ∀ (fuel : Nat) {u0 : Value} {u1 : Value} {u2 : Value} {u3 : Value} {u2v_c0 : Value} {u2v_c1 : Value} {u0v : (List Int)} {u1v : Int} {u2v_c0_u1v : (Int × ((List (Int × ((List Int) × Unit))) × Unit))} {u2v_c1_u2v : (List (List Int))} {r : ((List Int) × (List (List Int)))} (_ : impl_eachOrder_1_with_symmetries_1 fuel u0v u1v u2v_c0_u1v u2v_c1_u2v = some r), ∀ us0 : List Value, us0.length = 0 → MeetsU Try.prog 85 (us0 ++ [u0, u1, u2, u3]) [u2v_c0, u2v_c1] ([⟨(.ptr ty38), 2, u0v⟩, ⟨(.ptr tInt), 0, u1v⟩, ⟨(.ptr .raw), 0, (Value.func (Fn.func 71) #[] #[u2v_c0, u2v_c1])⟩, ⟨(.ptr .raw), 0, (Value.func (Fn.func 85) #[] #[u0, u1, u2, u3])⟩] ++ [⟨(.ptr ty26), 0, u2v_c0_u1v⟩, ⟨(.ptr ty31), 3, u2v_c1_u2v⟩]) [] ([⟨(.ptr ty38), 2, r.1⟩, ⟨(.ptr tInt), 0, u1v⟩, ⟨(.ptr .raw), 0, (Value.func (Fn.func 71) #[] #[u2v_c0, u2v_c1])⟩, ⟨(.ptr .raw), 0, (Value.func (Fn.func 85) #[] #[u0, u1, u2, u3])⟩] ++ [⟨(.ptr ty26), 0, u2v_c0_u1v⟩, ⟨(.ptr ty31), 3, r.2⟩]) := by
 intro fuel
 induction fuel with
 | zero => intro u0 u1 u2 u3 u2v_c0 u2v_c1 u0v u1v u2v_c0_u1v u2v_c1_u2v r h0; cases h0
 | succ fuel ih =>
 intro u0 u1 u2 u3 u2v_c0 u2v_c1 u0v u1v u2v_c0_u1v u2v_c1_u2v r h0
 intro us0 hus0
 refine match us0, hus0 with | [], _ => ?_
 refine MeetsU.of_body (n := 4) rfl (fn := Try.f85) Try.func85 rfl rfl rfl rfl rfl rfl fun c hn hfx hfix => ?_
 have hfix : ∀ p, p ∈ [(0, u0), (1, u1), (2, u2), (3, u3)] → p ∈ c.fix := hfix
 have k0 : (0, u0) ∈ c.fix := hfix _ (.head _)
 have k1 : (1, u1) ∈ c.fix := hfix _ (.tail _ (.head _))
 have k2 : (2, u2) ∈ c.fix := hfix _ (.tail _ (.tail _ (.head _)))
 have k3 : (3, u3) ∈ c.fix := hfix _ (.tail _ (.tail _ (.tail _ (.head _))))
 rw [impl_eachOrder_1_with_symmetries_1] at h0
 refine AW.seq ?_
 refine AW.seq (AW.reg hn hfx rfl ?_)
 refine .cons rfl (r_load_ref rfl rfl rfl rfl ok38) <| .cons rfl (r_len_own rfl rfl rfl rfl ok38 rfl) <| .cons rfl (r_load_shared rfl rfl ok3) <| .cons rfl (r_cmp rfl rfl rfl rfl rfl) <| .nil ?_
 refine AW.sub [(0, _), (1, _), (2, _), (3, _), (8, _), (900000, _), (900001, _)] ⟨rfl, rfl, rfl, rfl, rfl, rfl, rfl, trivial⟩ ?_
 refine AW.ifP rfl h0 (fun h0 => ?_) (fun h0 => ?_)
 ·refine AW.seq (AW.reg hn hfx rfl ?_)
  refine .cons rfl (r_load_shared rfl rfl ok79) <| .cons rfl (r_load_ref rfl rfl rfl rfl ok38) ?_
  obtain ⟨x1, hx1, h0⟩ := bindE h0
  refine .cons rfl (r_callM [] rfl rfl rfl Try.func71 rfl rfl (fun us0 _ => (W71 hx1).toU (us0 ++ [u2v_c0, u2v_c1])) (.lend rfl (.glend (r := 900000) rfl (.gio (r := 900001) rfl .nil))) rfl) <| .nil ?_
  refine AW.sub [(0, _), (1, _), (2, _), (3, _), (900000, _), (900001, _)] ⟨rfl, rfl, rfl, rfl, rfl, rfl, trivial⟩ ?_
  refine AW.ret ?_
  obtain rfl := Option.some.inj h0
  exact ⟨_, .nil, ⟨.inr ⟨nofun, rfl⟩, .inl ⟨rfl, rfl⟩, .inl ⟨rfl, rfl⟩, .inl ⟨rfl, rfl⟩, trivial⟩, ⟨rfl, rfl, trivial⟩⟩
 ·refine AW.skip ?_
  refine AW.seq (AW.reg hn hfx rfl ?_)
  refine .cons rfl (r_copy (.inr rfl) rfl rfl) <| .nil ?_
  refine AW.sub [(0, _), (1, _), (2, _), (3, _), (4, _), (900000, _), (900001, _)] ⟨rfl, rfl, rfl, rfl, rfl, rfl, rfl, trivial⟩ ?_
  obtain ⟨z26, h1, h0⟩ := bindE h0
  refine AW.joinJ [(1, _), (2, _), (3, _), (900000, _)] ⟨rfl, rfl, rfl, rfl, trivial⟩ [(0, .val (.ptr ty38) 2 z26.1), (900001, .gh u2v_c1 (.ptr ty31) 3 z26.2)] ?_ ?_
  ·refine AW.block ?_
   refine AW.loopP h1 [(1, _), (2, _), (3, _), (900000, _)] ⟨rfl, rfl, rfl, rfl, trivial⟩ (fun s38 => [(0, .val (.ptr ty38) 2 s38.1), (4, .val tInt 0 s38.2.1), (900001, .gh u2v_c1 (.ptr ty31) 3 s38.2.2)]) ⟨rfl, rfl, rfl, rfl, rfl, rfl, rfl, trivial⟩ fun s38 z49 h2 => ?_
   refine AW.seq ?_
   refine AW.seq (AW.reg hn hfx rfl ?_)
   refine .cons rfl (r_copy (.inl rfl) rfl rfl) <| .cons rfl (r_load_shared rfl rfl ok3) <| .cons rfl (r_cmp rfl rfl rfl rfl rfl) <| .nil ?_
   refine AW.sub [(0, _), (1, _), (2, _), (3, _), (4, _), (14, _), (900000, _), (900001, _)] ⟨rfl, rfl, rfl, rfl, rfl, rfl, rfl, rfl, trivial⟩ ?_
   refine AW.ifP rfl h2 (fun h2 => ?_) (fun h2 => ?_)
   ·refine AW.skip ?_
    refine AW.seq (AW.block ?_)
    refine AW.seq (AW.reg hn hfx rfl ?_)
    refine .cons rfl (r_load_ref rfl rfl rfl rfl ok38) <| .cons rfl (r_copy (.inl rfl) rfl rfl) ?_
    obtain ⟨x39, hx39, h2⟩ := bindE h2
    refine .cons rfl (r_call rfl rfl rfl Try.func86 rfl rfl (W86 hx39) rfl) <| .nil ?_
    refine AW.sub [(0, _), (1, _), (2, _), (3, _), (4, _), (19, _), (900000, _), (900001, _)] ⟨rfl, rfl, rfl, rfl, rfl, rfl, rfl, rfl, trivial⟩ ?_
    obtain ⟨z44, h3, h2⟩ := bindE h2
    refine AW.joinJ [(1, _), (2, _), (3, _), (4, _), (900000, _)] ⟨rfl, rfl, rfl, rfl, rfl, trivial⟩ [(0, .val (.ptr ty38) 2 z44.1), (900001, .gh u2v_c1 (.ptr ty31) 3 z44.2)] ?_ ?_
    ·refine AW.ifP rfl h3 (fun h3 => ?_) (fun h3 => ?_)
     ·refine AW.seq (AW.reg hn hfx rfl ?_)
      refine .cons rfl (r_load_ref rfl rfl rfl rfl ok38) <| .cons rfl (r_copy (.inl rfl) rfl rfl) <| .cons rfl (r_buildSlice [] (e := tInt) (mc := 0) rfl rfl rfl ok38 rfl rfl rfl) ?_
      obtain ⟨x45, hx45, h3⟩ := bindE h3
      refine .cons rfl (r_append [] rfl rfl rfl ok38 rfl (mr := 0) rfl rfl (app_len hx45) (app_eq hx45)) ?_
      refine RT.sub [(0, _), (1, _), (2, _), (3, _), (4, _), (23, _), (900000, _), (900001, _)] ⟨rfl, rfl, rfl, rfl, rfl, rfl, rfl, rfl, trivial⟩ ?_
      refine .cons rfl (r_store [] rfl rfl rfl rfl rfl rfl rfl rfl ok38 rfl rfl rfl rfl) <| .nil ?_
      refine AW.sub [(0, _), (1, _), (2, _), (3, _), (4, _), (900000, _), (900001, _)] ⟨rfl, rfl, rfl, rfl, rfl, rfl, rfl, trivial⟩ ?_
      refine AW.seq (AW.reg hn hfx rfl ?_)
      refine .cons rfl (r_load_shared rfl rfl ok1) ?_
      obtain ⟨x46, hx46, h3⟩ := bindE h3
      refine .cons rfl (r_callM [u2v_c0, u2v_c1] rfl rfl rfl Try.func85 rfl rfl (ih (u0 := u0) (u1 := u1) (u2 := u2) (u3 := u3) (u2v_c0 := u2v_c0) (u2v_c1 := u2v_c1) hx46) (.kio rfl k0 (.klend rfl k1 (.klend rfl k2 (.klend rfl k3 (.glend (r := 900000) rfl (.gio (r := 900001) rfl .nil)))))) rfl) <| .nil ?_
      refine AW.sub [(0, _), (1, _), (2, _), (3, _), (4, _), (900000, _), (900001, _)] ⟨rfl, rfl, rfl, rfl, rfl, rfl, rfl, trivial⟩ ?_
      refine AW.reg hn hfx rfl ?_
      refine .cons rfl (r_load_ref rfl rfl rfl rfl ok38) <| .cons rfl (r_load_ref rfl rfl rfl rfl ok38) <| .cons rfl (r_len_own rfl rfl rfl rfl ok38 rfl) <| .cons rfl (r_arith rfl rfl rfl rfl rfl) ?_
      refine RT.sub [(0, _), (1, _), (2, _), (3, _), (4, _), (26, _), (29, _), (900000, _), (900001, _)] ⟨rfl, rfl, rfl, rfl, rfl, rfl, rfl, rfl, rfl, trivial⟩ ?_
      obtain ⟨x47, hx47, h3⟩ := bindE h3
      refine .cons rfl (r_cutOwn [26] rfl rfl rfl rfl ok38 hx47) <| .cons rfl (r_store [] rfl rfl rfl rfl rfl rfl rfl rfl ok38 rfl rfl rfl rfl) <| .nil ?_
      obtain rfl := Option.some.inj h3
      exact ⟨rfl, rfl, rfl, rfl, rfl, rfl, rfl, trivial⟩
     ·refine AW.skip ?_
      obtain rfl := Option.some.inj h3
      exact ⟨rfl, rfl, rfl, rfl, rfl, rfl, rfl, trivial⟩
    ·intro l1 hl1
     refine AW.weaken hl1.sub ?_
     refine AW.reg hn hfx rfl ?_
     refine .cons rfl (r_copy (.inl rfl) rfl rfl) <| .cons rfl (r_arith rfl rfl rfl rfl rfl) <| .cons rfl (r_copy (.inr rfl) rfl rfl) <| .nil ?_
     exact ⟨_, (Option.some.inj h2).symm, ⟨rfl, rfl, rfl, rfl, rfl, rfl, rfl, trivial⟩⟩
   ·refine AW.exit ?_
    refine ⟨_, (Option.some.inj h2).symm, fun hz => ?_⟩
    subst hz
    exact ⟨rfl, rfl, rfl, rfl, rfl, rfl, trivial⟩
  ·intro l1 hl1
   obtain rfl := Option.some.inj h0
   exact ⟨_, .nil, ⟨.inr ⟨nofun, (Sub.via (m := [(0, _)]) hl1 ⟨rfl, trivial⟩).1⟩, .inl ⟨rfl, rfl⟩, .inl ⟨rfl, rfl⟩, .inl ⟨rfl, rfl⟩, trivial⟩, ⟨(Sub.via (m := [(900000, _)]) hl1 ⟨rfl, trivial⟩).1, (Sub.via (m := [(900001, _)]) hl1 ⟨rfl, trivial⟩).1, trivial⟩⟩

theorem W59_71 {found_c0 : Value} {found_c1 : Value} {n : Int} {found_c0_u1v : (Int × ((List (Int × ((List Int) × Unit))) × Unit))} {found_c1_u2v : (List (List Int))} {r : (List (List Int))} (h0 : impl_eachOrder_with_symmetries_1 n found_c0_u1v found_c1_u2v = some r) : ∀ us0 : List Value, us0.length = 2 → MeetsU Try.prog 59 (us0 ++ []) [found_c0, found_c1] ([⟨tInt, 0, n⟩, ⟨.raw, 0, (Value.func (Fn.func 71) #[] #[found_c0, found_c1])⟩] ++ [⟨(.ptr ty26), 0, found_c0_u1v⟩, ⟨(.ptr ty31), 3, found_c1_u2v⟩]) [] ([⟨tInt, 0, n⟩, ⟨.raw, 0, (Value.func (Fn.func 71) #[] #[found_c0, found_c1])⟩] ++ [⟨(.ptr ty26), 0, found_c0_u1v⟩, ⟨(.ptr ty31), 3, r⟩]) := by
 intro us0 hus0
 refine match us0, hus0 with | [w0, w1], _ => ?_
 refine MeetsU.of_body (n := 2) rfl (fn := Try.f59) Try.func59 rfl rfl rfl rfl rfl rfl fun c hn hfx hfix => ?_
 have hfix : ∀ p, p ∈ [(0, w0), (1, w1)] → p ∈ c.fix := hfix
 have k0 : (0, w0) ∈ c.fix := hfix _ (.head _)
 have k1 : (1, w1) ∈ c.fix := hfix _ (.tail _ (.head _))
 unfold impl_eachOrder_with_symmetries_1 at h0
 refine AW.seq (AW.reg hn hfx rfl ?_)
 refine .cons rfl (r_box [] rfl rfl rfl) <| .cons rfl (r_box [] rfl rfl rfl) <| .nil ?_
 refine AW.sub [(0, _), (1, _), (2, _), (3, _), (900000, _), (900001, _)] ⟨rfl, rfl, rfl, rfl, rfl, rfl, trivial⟩ ?_
 refine AW.seq (AW.reg hn hfx rfl ?_)
 refine .cons rfl (r_buildSlice [] (e := tInt) (mc := 0) rfl rfl rfl ok38 rfl rfl rfl) <| .cons rfl (r_alloc rfl ok38 rfl) <| .cons rfl (r_store [] rfl rfl rfl rfl rfl rfl rfl rfl ok38 rfl rfl rfl rfl) <| .nil ?_
 refine AW.sub [(0, _), (1, _), (2, _), (3, _), (4, _), (900000, _), (900001, _)] ⟨rfl, rfl, rfl, rfl, rfl, rfl, rfl, trivial⟩ ?_
 refine AW.seq (AW.reg hn hfx rfl ?_)
 refine .cons rfl (r_alloc rfl ok1 rfl) <| .nil ?_
 refine AW.sub [(0, _), (1, _), (2, _), (3, _), (4, _), (5, _), (900000, _), (900001, _)] ⟨rfl, rfl, rfl, rfl, rfl, rfl, rfl, rfl, trivial⟩ ?_
 refine AW.know 4 hn hfx rfl fun u4_ c hn hfx k4 hm => ?_
 replace k0 := hm _ k0
 replace k1 := hm _ k1
 refine AW.know 2 hn hfx rfl fun u2_ c hn hfx k2 hm => ?_
 replace k0 := hm _ k0
 replace k1 := hm _ k1
 replace k4 := hm _ k4
 refine AW.know 3 hn hfx rfl fun u3_ c hn hfx k3 hm => ?_
 replace k0 := hm _ k0
 replace k1 := hm _ k1
 replace k4 := hm _ k4
 replace k2 := hm _ k2
 refine AW.know 5 hn hfx rfl fun u5_ c hn hfx k5 hm => ?_
 replace k0 := hm _ k0
 replace k1 := hm _ k1
 replace k4 := hm _ k4
 replace k2 := hm _ k2
 replace k3 := hm _ k3
 refine AW.seq (AW.reg hn hfx rfl ?_)
 refine .cons rfl (r_mkfun (vs := [u4_, u2_, u3_, u5_]) rfl ⟨k4, k2, k3, k5, trivial⟩) <| .cons rfl (r_store [] rfl rfl rfl rfl rfl rfl rfl rfl ok1 rfl rfl rfl rfl) <| .nil ?_
 refine AW.sub [(0, _), (1, _), (2, _), (3, _), (4, _), (5, _), (900000, _), (900001, _)] ⟨rfl, rfl, rfl, rfl, rfl, rfl, rfl, rfl, trivial⟩ ?_
 refine AW.reg hn hfx rfl ?_
 refine .cons rfl (r_load rfl rfl rfl rfl ok1 rfl) ?_
 obtain ⟨x1, hx1, h0⟩ := bindE h0
 refine .cons rfl (r_callM [found_c0, found_c1] rfl rfl rfl Try.func85 rfl rfl (W85_71 30 (u0 := u4_) (u1 := u2_) (u2 := u3_) (u3 := u5_) (u2v_c0 := found_c0) (u2v_c1 := found_c1) hx1) (.kio rfl k4 (.klend rfl k2 (.klend rfl k3 (.klend rfl k5 (.glend (r := 900000) rfl (.gio (r := 900001) rfl .nil)))))) rfl) <| .nil ?_
 obtain rfl := Option.some.inj h0
 exact ⟨_, .nil, ⟨.inl ⟨rfl, rfl⟩, .inl ⟨rfl, rfl⟩, trivial⟩, ⟨rfl, rfl, trivial⟩⟩

theorem W41  {a : (Int × ((List (Int × ((List Int) × Unit))) × Unit))} {r : (List (List Int))} (h0 : impl_symmetries a = some r) : Meets Try.prog 41 [⟨ty26, 0, a⟩] [⟨ty31, 2, r⟩] [⟨ty26, 0, a⟩] := by
 refine Meets.of_body (fn := Try.f41) Try.func41 rfl rfl rfl fun c hn hfx => ?_
 unfold impl_symmetries at h0
 refine AW.seq (AW.reg hn hfx rfl ?_)
 refine .cons rfl (r_box [] rfl rfl rfl) <| .cons rfl (r_nilS (m := 2) (.inr rfl) ok31) <| .nil ?_
 refine AW.sub [(1, _)] ⟨rfl, trivial⟩ ?_
 refine AW.seq (AW.reg hn hfx rfl ?_)
 refine .cons rfl (r_buildSlice [] (e := ty38) (mc := 1) rfl rfl rfl ok31 rfl rfl rfl) <| .cons rfl (r_alloc rfl ok31 rfl) <| .cons rfl (r_store [] rfl rfl rfl rfl rfl rfl rfl rfl ok31 rfl rfl rfl rfl) <| .nil ?_
 refine AW.sub [(1, _), (3, _)] ⟨rfl, rfl, trivial⟩ ?_
 refine AW.know 1 hn hfx rfl fun u1_ c hn hfx k1 hm => ?_
 refine AW.know 3 hn hfx rfl fun u3_ c hn hfx k3 hm => ?_
 replace k1 := hm _ k1
 refine AW.seq (AW.reg hn hfx rfl ?_)
 refine .cons rfl (r_field rfl rfl rfl rfl ok26 rfl rfl) <| .cons rfl (r_load rfl rfl rfl rfl ok3 rfl) <| .cons rfl (r_mkfun (vs := [u1_, u3_]) rfl ⟨k1, k3, trivial⟩) ?_
 obtain ⟨x1, hx1, h0⟩ := bindE h0
 refine .cons rfl (r_callM [u1_, u3_] rfl rfl rfl Try.func59 rfl rfl (W59_71 (found_c0 := u1_) (found_c1 := u3_) hx1) (.lend rfl (.lend rfl (.klend rfl k1 (.kio rfl k3 .nil)))) rfl) <| .nil ?_
 refine AW.sub [(1, _), (3, _)] ⟨rfl, rfl, trivial⟩ ?_
 refine AW.seq (AW.reg hn hfx rfl ?_)
 refine .cons rfl (r_load_ref rfl rfl rfl rfl ok31) <| .cons rfl (r_assign [9] (.inl rfl) rfl rfl) <| .nil ?_
 refine AW.sub [(1, _), (2, _), (3, _)] ⟨rfl, rfl, rfl, trivial⟩ ?_
 refine AW.ret ?_
 obtain rfl := Option.some.inj h0
 exact ⟨_, .tmp rfl rfl .nil, .inl ⟨rfl, rfl⟩, trivial⟩

theorem W10  {a : (Int × ((List (Int × ((List Int) × Unit))) × Unit))} {r : ((List (List Int)) × Bool)} (h0 : impl_SymmetriesOf a = some r) : Meets Try.prog 10 [⟨ty26, 0, a⟩] [⟨ty31, 2, r.1⟩, ⟨.bool, 0, r.2⟩] [⟨ty26, 0, a⟩] := by
 refine Meets.of_body (fn := Try.f10) Try.func10 rfl rfl rfl fun c hn hfx => ?_
 unfold impl_SymmetriesOf at h0
 refine AW.seq (AW.reg hn hfx rfl ?_)
 refine .cons rfl (r_box [] rfl rfl rfl) <| .cons rfl (r_nilS (m := 2) (.inr rfl) ok31) <| .cons rfl (r_copy (.inr rfl) rfl rfl) <| .nil ?_
 refine AW.sub [(1, _)] ⟨rfl, trivial⟩ ?_
 refine AW.seq ?_
 refine AW.seq (AW.reg hn hfx rfl ?_)
 refine .cons rfl (r_load rfl rfl rfl rfl ok26 rfl) ?_
 obtain ⟨x1, hx1, h0⟩ := bindE h0
 refine .cons rfl (r_call rfl rfl rfl Try.func29 rfl rfl (W29 hx1) rfl) <| .cons rfl (r_not rfl rfl rfl) <| .nil ?_
 refine AW.sub [(1, _), (6, _)] ⟨rfl, rfl, trivial⟩ ?_
 refine AW.ifP rfl h0 (fun h0 => ?_) (fun h0 => ?_)
 ·refine AW.seq (AW.reg hn hfx rfl ?_)
  refine .cons rfl (r_buildSlice [] (e := ty38) (mc := 1) rfl rfl rfl ok31 rfl rfl rfl) <| .cons rfl (r_assign [] (.inl rfl) rfl rfl) <| .cons rfl (r_copy (.inr rfl) rfl rfl) <| .nil ?_
  refine AW.sub [(2, _), (3, _)] ⟨rfl, rfl, trivial⟩ ?_
  refine AW.ret ?_
  obtain rfl := Option.some.inj h0
  exact ⟨_, .tmp rfl rfl (.tmp rfl rfl .nil), .inl ⟨rfl, rfl⟩, trivial⟩
 ·refine AW.skip ?_
  refine AW.seq (AW.reg hn hfx rfl ?_)
  refine .cons rfl (r_load rfl rfl rfl rfl ok26 rfl) ?_
  obtain ⟨x2, hx2, h0⟩ := bindE h0
  refine .cons rfl (r_call rfl rfl rfl Try.func41 rfl rfl (W41 hx2) rfl) <| .cons rfl (r_assign [] (.inl rfl) rfl rfl) <| .cons rfl (r_copy (.inr rfl) rfl rfl) <| .nil ?_
  refine AW.sub [(2, _), (3, _)] ⟨rfl, rfl, trivial⟩ ?_
  refine AW.ret ?_
  obtain rfl := Option.some.inj h0
  exact ⟨_, .tmp rfl rfl (.tmp rfl rfl .nil), .inl ⟨rfl, rfl⟩, trivial⟩

theorem W11  {a : (Int × ((List (Int × ((List Int) × Unit))) × Unit))} {r : ((List (List Int)) × Bool)} (h0 : spec_SymmetriesOf a = some r) : Meets Try.prog 11 [⟨ty26, 0, a⟩] [⟨ty31, 1, r.1⟩, ⟨.bool, 0, r.2⟩] [⟨ty26, 0, a⟩] := by
 refine Meets.of_body (fn := Try.f11) Try.func11 rfl rfl rfl fun c hn hfx => ?_
 unfold spec_SymmetriesOf at h0
 refine AW.seq (AW.reg hn hfx rfl ?_)
 refine .cons rfl (r_box [] rfl rfl rfl) <| .cons rfl (r_nilS (m := 2) (.inr rfl) ok31) <| .cons rfl (r_copy (.inr rfl) rfl rfl) <| .nil ?_
 refine AW.sub [(1, _)] ⟨rfl, trivial⟩ ?_
 refine AW.seq (AW.reg hn hfx rfl ?_)
 refine .cons rfl (r_buildSlice [] (e := ty38) (mc := 1) rfl rfl rfl ok31 rfl rfl rfl) <| .cons rfl (SR.lower 1 (r_assign [] (.inl rfl) rfl rfl)) <| .nil ?_
 refine AW.sub [(1, _), (4, _)] ⟨rfl, rfl, trivial⟩ ?_
 refine AW.seq ?_
 refine AW.seq (AW.reg hn hfx rfl ?_)
 refine .cons rfl (r_load rfl rfl rfl rfl ok26 rfl) ?_
 obtain ⟨x1, hx1, h0⟩ := bindE h0
 refine .cons rfl (r_call rfl rfl rfl Try.func32 rfl rfl (W32 hx1) rfl) <| .cons rfl (r_not rfl rfl rfl) <| .nil ?_
 refine AW.sub [(1, _), (4, _), (10, _)] ⟨rfl, rfl, rfl, trivial⟩ ?_
 refine AW.ifP rfl h0 (fun h0 => ?_) (fun h0 => ?_)
 ·refine AW.seq (AW.reg hn hfx rfl ?_)
  refine .cons rfl (r_alias rfl rfl) <| .cons rfl (r_assign [11] (.inl rfl) rfl rfl) <| .cons rfl (r_copy (.inr rfl) rfl rfl) <| .nil ?_
  refine AW.sub [(2, _), (3, _)] ⟨rfl, rfl, trivial⟩ ?_
  refine AW.ret ?_
  obtain rfl := Option.some.inj h0
  exact ⟨_, .tmp rfl rfl (.tmp rfl rfl .nil), .inl ⟨rfl, rfl⟩, trivial⟩
 ·refine AW.skip ?_
  refine AW.seq (AW.reg hn hfx rfl ?_)
  refine .cons rfl (r_field rfl rfl rfl rfl ok26 rfl rfl) <| .cons rfl (r_load rfl rfl rfl rfl ok3 rfl) <| .cons rfl (r_buildSlice [] (e := tInt) (mc := 0) rfl rfl rfl ok38 rfl rfl rfl) ?_
  obtain ⟨x2, hx2, h0⟩ := bindE h0
  refine .cons rfl (r_call rfl rfl rfl Try.func42 rfl rfl (W42 30 hx2) rfl) ?_
  refine RT.sub [(1, _), (4, _), (15, _)] ⟨rfl, rfl, rfl, trivial⟩ ?_
  refine .cons rfl (SR.lower 1 (r_assign [] (.inl rfl) rfl rfl)) <| .nil ?_
  refine AW.sub [(1, _), (4, _), (5, _)] ⟨rfl, rfl, rfl, trivial⟩ ?_
  refine AW.seq ?_
  refine AW.seq (AW.reg hn hfx rfl ?_)
  refine .cons rfl (r_copy (.inr rfl) rfl rfl) <| .nil ?_
  refine AW.sub [(1, _), (4, _), (5, _), (6, _)] ⟨rfl, rfl, rfl, rfl, trivial⟩ ?_
  obtain ⟨z27, h1, h0⟩ := bindE h0
  refine AW.joinJ [] trivial [(4, .val ty31 1 z27)] ?_ ?_
  ·refine AW.block ?_
   refine AW.loopP h1 [(1, _), (5, _)] ⟨rfl, rfl, trivial⟩ (fun s39 => [(4, .val ty31 1 s39.1), (6, .val tInt 0 s39.2)]) ⟨rfl, rfl, rfl, rfl, trivial⟩ fun s39 z50 h2 => ?_
   refine AW.seq ?_
   refine AW.seq (AW.reg hn hfx rfl ?_)
   refine .cons rfl (r_copy (.inl rfl) rfl rfl) <| .cons rfl (r_alias rfl rfl) <| .cons rfl (r_len_own rfl rfl rfl rfl ok31 rfl) <| .cons rfl (r_cmp rfl rfl rfl rfl rfl) <| .nil ?_
   refine AW.sub [(1, _), (4, _), (5, _), (6, _), (19, _)] ⟨rfl, rfl, rfl, rfl, rfl, trivial⟩ ?_
   refine AW.ifP rfl h2 (fun h2 => ?_) (fun h2 => ?_)
   ·refine AW.skip ?_
    refine AW.seq (AW.block ?_)
    refine AW.seq (AW.draw hmix hn hfx rfl rfl ?_)
    refine .cons rfl (r_load rfl rfl rfl rfl ok26 rfl) rfl rfl rfl <| .cons rfl (r_aliasF rfl) rfl rfl rfl <| .cons rfl (r_copy (.inl rfl) rfl rfl) rfl rfl rfl ?_
    obtain ⟨x40, hx40, h2⟩ := bindE h2
    refine .cons rfl (r_index_own rfl rfl rfl rfl rfl ok31 (idx_nn hx40) (idx_lt hx40)) rfl rfl rfl ?_
    refine DT.eq [(25, _), (24, _), (23, _), (22, _), (1, _), (4, _), (5, _), (6, _), (19, _)] rfl ?_
    refine .cons rfl (r_load rfl rfl rfl (sub_app rfl (sub_e (idx_get hx40))) ok38 rfl) rfl rfl rfl ?_
    obtain ⟨x41, hx41, h2⟩ := bindE h2
    refine .cons rfl (r_call rfl rfl rfl Try.func28 rfl rfl (W28 hx41) rfl) rfl rfl rfl <| .cons rfl (r_load rfl rfl rfl rfl ok26 rfl) rfl rfl rfl ?_
    obtain ⟨x42, hx42, h2⟩ := bindE h2
    refine .cons rfl (r_call rfl rfl rfl Try.func33 rfl rfl (W33 hx42) rfl) rfl rfl rfl <| .nil rfl ?_
    refine AW.sub [(1, _), (4, _), (5, _), (6, _), (29, _)] ⟨rfl, rfl, rfl, rfl, rfl, trivial⟩ ?_
    obtain ⟨z46, h3, h2⟩ := bindE h2
    refine AW.joinJ [(1, _), (5, _), (6, _)] ⟨rfl, rfl, rfl, trivial⟩ [(4, .val ty31 1 z46)] ?_ ?_
    ·refine AW.ifP rfl h3 (fun h3 => ?_) (fun h3 => ?_)
     ·refine AW.reg hn hfx rfl ?_
      refine .cons rfl (r_alias rfl rfl) <| .cons rfl (r_alias rfl rfl) <| .cons rfl (r_copy (.inl rfl) rfl rfl) ?_
      obtain ⟨x47, hx47, h3⟩ := bindE h3
      refine .cons rfl (r_index_own rfl rfl rfl rfl rfl ok31 (idx_nn hx47) (idx_lt hx47)) ?_
      refine RT.sub [(1, _), (4, _), (5, _), (6, _), (30, _), (33, _)] ⟨rfl, rfl, rfl, rfl, rfl, rfl, trivial⟩ ?_
      refine .cons rfl (r_load rfl rfl rfl (sub_app rfl (sub_e (idx_get hx47))) ok38 rfl) <| .cons rfl (r_buildSlice [] (e := ty38) (mc := 0) rfl rfl rfl ok31 rfl rfl rfl) ?_
      obtain ⟨x48, hx48, h3⟩ := bindE h3
      refine .cons rfl (r_append [] rfl rfl rfl ok31 rfl (mr := 0) rfl rfl (app_len hx48) (app_eq hx48)) <| .cons rfl (r_assign [] (.inl rfl) rfl rfl) <| .nil ?_
      obtain rfl := Option.some.inj h3
      exact ⟨rfl, rfl, rfl, rfl, trivial⟩
     ·refine AW.skip ?_
      obtain rfl := Option.some.inj h3
      exact ⟨rfl, rfl, rfl, rfl, trivial⟩
    ·intro l1 hl1
     refine AW.weaken hl1.sub ?_
     refine AW.reg hn hfx rfl ?_
     refine .cons rfl (r_copy (.inl rfl) rfl rfl) <| .cons rfl (r_arith rfl rfl rfl rfl rfl) <| .cons rfl (r_copy (.inr rfl) rfl rfl) <| .nil ?_
     exact ⟨_, (Option.some.inj h2).symm, ⟨rfl, rfl, rfl, rfl, trivial⟩⟩
   ·refine AW.exit ?_
    refine ⟨_, (Option.some.inj h2).symm, fun hz => ?_⟩
    subst hz
    exact ⟨rfl, trivial⟩
  ·intro l1 hl1
   refine AW.weaken hl1.sub ?_
   refine AW.seq (AW.reg hn hfx rfl ?_)
   refine .cons rfl (r_alias rfl rfl) <| .cons rfl (r_assign [37] (.inl rfl) rfl rfl) <| .cons rfl (r_copy (.inr rfl) rfl rfl) <| .nil ?_
   refine AW.sub [(2, _), (3, _)] ⟨rfl, rfl, trivial⟩ ?_
   refine AW.ret ?_
   obtain rfl := Option.some.inj h0
   exact ⟨_, .tmp rfl rfl (.tmp rfl rfl .nil), .inl ⟨rfl, rfl⟩, trivial⟩

end Go.Proofs.Ytoaajjhcdbbfdaa
namespace Go.Proofs.Ytoaajjhcdbbfdaa
open Go.Abs Go.Pure
-- theorem hmix : Try.prog.follows .mixedOrders = true := by kernel_rfl
theorem W43  {a : (List Int)} {b : (List Int)} {r : Bool} (h0 : laws_rInts a b = some r) : Meets Try.prog 43 [⟨ty38, 0, a⟩, ⟨ty38, 0, b⟩] [⟨.bool, 0, r⟩] [⟨ty38, 0, a⟩, ⟨ty38, 0, b⟩] := by
 refine Meets.of_body (fn := Try.f43) Try.func43 rfl rfl rfl fun c hn hfx => ?_
 unfold laws_rInts at h0
 refine AW.seq (AW.reg hn hfx rfl ?_)
 refine .cons rfl (r_copy (.inr rfl) rfl rfl) <| .nil ?_
 refine AW.sub [(0, _), (1, _)] ⟨rfl, rfl, trivial⟩ ?_
 refine AW.seq ?_
 refine AW.seq (AW.reg hn hfx rfl ?_)
 refine .cons rfl (r_copy (.inl rfl) rfl rfl) <| .cons rfl (r_len rfl rfl ok38 rfl) <| .cons rfl (r_copy (.inl rfl) rfl rfl) <| .cons rfl (r_len rfl rfl ok38 rfl) ?_
 refine RT.sub [(0, _), (1, _), (7, _), (9, _)] ⟨rfl, rfl, rfl, rfl, trivial⟩ ?_
 refine .cons rfl (r_cmp rfl rfl rfl rfl rfl) <| .nil ?_
 refine AW.sub [(0, _), (1, _), (10, _)] ⟨rfl, rfl, rfl, trivial⟩ ?_
 refine AW.ifP rfl h0 (fun h0 => ?_) (fun h0 => ?_)
 ·refine AW.seq (AW.reg hn hfx rfl ?_)
  refine .cons rfl (r_copy (.inr rfl) rfl rfl) <| .nil ?_
  refine AW.sub [(4, _)] ⟨rfl, trivial⟩ ?_
  refine AW.ret ?_
  obtain rfl := Option.some.inj h0
  exact ⟨_, .tmp rfl rfl .nil, .inl ⟨rfl, rfl⟩, .inl ⟨rfl, rfl⟩, trivial⟩
 ·refine AW.skip ?_
  refine AW.seq ?_
  refine AW.seq (AW.reg hn hfx rfl ?_)
  refine .cons rfl (r_copy (.inr rfl) rfl rfl) <| .nil ?_
  refine AW.sub [(0, _), (1, _), (5, _)] ⟨rfl, rfl, rfl, trivial⟩ ?_
  obtain ⟨z9, h1, h0⟩ := bindE h0
  refine AW.joinX z9 [] trivial (fun s8 => []) ?_ ?_
  ·refine AW.block ?_
   refine AW.loopP h1 [(0, _), (1, _)] ⟨rfl, rfl, trivial⟩ (fun s13 => [(5, .val tInt 0 s13)]) ⟨rfl, rfl, rfl, trivial⟩ fun s13 z16 h2 => ?_
   refine AW.seq ?_
   refine AW.seq (AW.reg hn hfx rfl ?_)
   refine .cons rfl (r_copy (.inl rfl) rfl rfl) <| .cons rfl (r_copy (.inl rfl) rfl rfl) <| .cons rfl (r_len rfl rfl ok38 rfl) <| .cons rfl (r_cmp rfl rfl rfl rfl rfl) <| .nil ?_
   refine AW.sub [(0, _), (1, _), (5, _), (14, _)] ⟨rfl, rfl, rfl, rfl, trivial⟩ ?_
   refine AW.ifP rfl h2 (fun h2 => ?_) (fun h2 => ?_)
   ·refine AW.skip ?_
    refine AW.seq (AW.block ?_)
    refine AW.seq (AW.draw hmix hn hfx rfl rfl ?_)
    refine .cons rfl (r_copy (.inl rfl) rfl rfl) rfl rfl rfl <| .cons rfl (r_copy (.inl rfl) rfl rfl) rfl rfl rfl ?_
    obtain ⟨x14, hx14, h2⟩ := bindE h2
    refine .cons rfl (r_index_shared rfl rfl rfl ok38 (idx_nn hx14) (idx_get hx14)) rfl rfl rfl <| .cons rfl (r_load_shared rfl rfl ok3) rfl rfl rfl ?_
    refine DT.eq [(20, _), (19, _), (18, _), (17, _), (0, _), (1, _), (5, _), (14, _)] rfl ?_
    refine .cons rfl (r_copy (.inl rfl) rfl rfl) rfl rfl rfl <| .cons rfl (r_copy (.inl rfl) rfl rfl) rfl rfl rfl ?_
    obtain ⟨x15, hx15, h2⟩ := bindE h2
    refine .cons rfl (r_index_shared rfl rfl rfl ok38 (idx_nn hx15) (idx_get hx15)) rfl rfl rfl <| .cons rfl (r_load_shared rfl rfl ok3) rfl rfl rfl ?_
    refine DT.eq [(24, _), (23, _), (22, _), (21, _), (20, _), (19, _), (18, _), (17, _), (0, _), (1, _), (5, _), (14, _)] rfl ?_
    refine .cons rfl (r_cmp rfl rfl rfl rfl rfl) rfl rfl rfl <| .nil rfl ?_
    refine AW.sub [(0, _), (1, _), (5, _), (25, _)] ⟨rfl, rfl, rfl, rfl, trivial⟩ ?_
    refine AW.ifP rfl h2 (fun h2 => ?_) (fun h2 => ?_)
    ·refine AW.seq (AW.reg hn hfx rfl ?_)
     refine .cons rfl (r_copy (.inr rfl) rfl rfl) <| .nil ?_
     refine AW.sub [(4, _)] ⟨rfl, trivial⟩ ?_
     refine AW.ret ?_
     refine ⟨_, (Option.some.inj h2).symm, fun hz => ?_⟩
     subst hz
     obtain rfl := Option.some.inj h0
     exact ⟨_, .tmp rfl rfl .nil, .inl ⟨rfl, rfl⟩, .inl ⟨rfl, rfl⟩, trivial⟩
    ·refine AW.skip ?_
     refine AW.reg hn hfx rfl ?_
     refine .cons rfl (r_copy (.inl rfl) rfl rfl) <| .cons rfl (r_arith rfl rfl rfl rfl rfl) <| .cons rfl (r_copy (.inr rfl) rfl rfl) <| .nil ?_
     exact ⟨_, (Option.some.inj h2).symm, ⟨rfl, rfl, rfl, trivial⟩⟩
   ·refine AW.exit ?_
    refine ⟨_, (Option.some.inj h2).symm, fun hz => ?_⟩
    subst hz
    exact ⟨_, rfl, trivial⟩
  ·rintro s8 rfl l1 hl1
   refine AW.weaken hl1.sub ?_
   refine AW.seq (AW.reg hn hfx rfl ?_)
   refine .cons rfl (r_copy (.inr rfl) rfl rfl) <| .nil ?_
   refine AW.sub [(4, _)] ⟨rfl, trivial⟩ ?_
   refine AW.ret ?_
   obtain rfl := Option.some.inj h0
   exact ⟨_, .tmp rfl rfl .nil, .inl ⟨rfl, rfl⟩, .inl ⟨rfl, rfl⟩, trivial⟩

theorem W12  {a : (List (List Int))} {b : (List (List Int))} {r : Bool} (h0 : laws_rTable a b = some r) : Meets Try.prog 12 [⟨ty31, 0, a⟩, ⟨ty31, 0, b⟩] [⟨.bool, 0, r⟩] [⟨ty31, 0, a⟩, ⟨ty31, 0, b⟩] := by
 refine Meets.of_body (fn := Try.f12) Try.func12 rfl rfl rfl fun c hn hfx => ?_
 unfold laws_rTable at h0
 refine AW.seq (AW.reg hn hfx rfl ?_)
 refine .cons rfl (r_copy (.inr rfl) rfl rfl) <| .nil ?_
 refine AW.sub [(0, _), (1, _)] ⟨rfl, rfl, trivial⟩ ?_
 refine AW.seq ?_
 refine AW.seq (AW.reg hn hfx rfl ?_)
 refine .cons rfl (r_copy (.inl rfl) rfl rfl) <| .cons rfl (r_len rfl rfl ok31 rfl) <| .cons rfl (r_copy (.inl rfl) rfl rfl) <| .cons rfl (r_len rfl rfl ok31 rfl) ?_
 refine RT.sub [(0, _), (1, _), (7, _), (9, _)] ⟨rfl, rfl, rfl, rfl, trivial⟩ ?_
 refine .cons rfl (r_cmp rfl rfl rfl rfl rfl) <| .nil ?_
 refine AW.sub [(0, _), (1, _), (10, _)] ⟨rfl, rfl, rfl, trivial⟩ ?_
 refine AW.ifP rfl h0 (fun h0 => ?_) (fun h0 => ?_)
 ·refine AW.seq (AW.reg hn hfx rfl ?_)
  refine .cons rfl (r_copy (.inr rfl) rfl rfl) <| .nil ?_
  refine AW.sub [(4, _)] ⟨rfl, trivial⟩ ?_
  refine AW.ret ?_
  obtain rfl := Option.some.inj h0
  exact ⟨_, .tmp rfl rfl .nil, .inl ⟨rfl, rfl⟩, .inl ⟨rfl, rfl⟩, trivial⟩
 ·refine AW.skip ?_
  refine AW.seq ?_
  refine AW.seq (AW.reg hn hfx rfl ?_)
  refine .cons rfl (r_copy (.inr rfl) rfl rfl) <| .nil ?_
  refine AW.sub [(0, _), (1, _), (5, _)] ⟨rfl, rfl, rfl, trivial⟩ ?_
  obtain ⟨z11, h1, h0⟩ := bindE h0
  refine AW.joinX z11 [] trivial (fun s10 => []) ?_ ?_
  ·refine AW.block ?_
   refine AW.loopP h1 [(0, _), (1, _)] ⟨rfl, rfl, trivial⟩ (fun s16 => [(5, .val tInt 0 s16)]) ⟨rfl, rfl, rfl, trivial⟩ fun s16 z20 h2 => ?_
   refine AW.seq ?_
   refine AW.seq (AW.reg hn hfx rfl ?_)
   refine .cons rfl (r_copy (.inl rfl) rfl rfl) <| .cons rfl (r_copy (.inl rfl) rfl rfl) <| .cons rfl (r_len rfl rfl ok31 rfl) <| .cons rfl (r_cmp rfl rfl rfl rfl rfl) <| .nil ?_
   refine AW.sub [(0, _), (1, _), (5, _), (14, _)] ⟨rfl, rfl, rfl, rfl, trivial⟩ ?_
   refine AW.ifP rfl h2 (fun h2 => ?_) (fun h2 => ?_)
   ·refine AW.skip ?_
    refine AW.seq (AW.block ?_)
    refine AW.seq (AW.draw hmix hn hfx rfl rfl ?_)
    refine .cons rfl (r_copy (.inl rfl) rfl rfl) rfl rfl rfl <| .cons rfl (r_copy (.inl rfl) rfl rfl) rfl rfl rfl ?_
    obtain ⟨x17, hx17, h2⟩ := bindE h2
    refine .cons rfl (r_index_shared rfl rfl rfl ok31 (idx_nn hx17) (idx_get hx17)) rfl rfl rfl <| .cons rfl (r_load_shared rfl rfl ok38) rfl rfl rfl ?_
    refine DT.eq [(20, _), (19, _), (18, _), (17, _), (0, _), (1, _), (5, _), (14, _)] rfl ?_
    refine .cons rfl (r_copy (.inl rfl) rfl rfl) rfl rfl rfl <| .cons rfl (r_copy (.inl rfl) rfl rfl) rfl rfl rfl ?_
    obtain ⟨x18, hx18, h2⟩ := bindE h2
    refine .cons rfl (r_index_shared rfl rfl rfl ok31 (idx_nn hx18) (idx_get hx18)) rfl rfl rfl <| .cons rfl (r_load_shared rfl rfl ok38) rfl rfl rfl ?_
    refine DT.eq [(24, _), (23, _), (22, _), (21, _), (20, _), (19, _), (18, _), (17, _), (0, _), (1, _), (5, _), (14, _)] rfl ?_
    obtain ⟨x19, hx19, h2⟩ := bindE h2
    refine .cons rfl (r_call rfl rfl rfl Try.func43 rfl rfl (W43 hx19) rfl) rfl rfl rfl <| .cons rfl (r_not rfl rfl rfl) rfl rfl rfl <| .nil rfl ?_
    refine AW.sub [(0, _), (1, _), (5, _), (26, _)] ⟨rfl, rfl, rfl, rfl, trivial⟩ ?_
    refine AW.ifP rfl h2 (fun h2 => ?_) (fun h2 => ?_)
    ·refine AW.seq (AW.reg hn hfx rfl ?_)
     refine .cons rfl (r_copy (.inr rfl) rfl rfl) <| .nil ?_
     refine AW.sub [(4, _)] ⟨rfl, trivial⟩ ?_
     refine AW.ret ?_
     refine ⟨_, (Option.some.inj h2).symm, fun hz => ?_⟩
     subst hz
     obtain rfl := Option.some.inj h0
     exact ⟨_, .tmp rfl rfl .nil, .inl ⟨rfl, rfl⟩, .inl ⟨rfl, rfl⟩, trivial⟩
    ·refine AW.skip ?_
     refine AW.reg hn hfx rfl ?_
     refine .cons rfl (r_copy (.inl rfl) rfl rfl) <| .cons rfl (r_arith rfl rfl rfl rfl rfl) <| .cons rfl (r_copy (.inr rfl) rfl rfl) <| .nil ?_
     exact ⟨_, (Option.some.inj h2).symm, ⟨rfl, rfl, rfl, trivial⟩⟩
   ·refine AW.exit ?_
    refine ⟨_, (Option.some.inj h2).symm, fun hz => ?_⟩
    subst hz
    exact ⟨_, rfl, trivial⟩
  ·rintro s10 rfl l1 hl1
   refine AW.weaken hl1.sub ?_
   refine AW.seq (AW.reg hn hfx rfl ?_)
   refine .cons rfl (r_copy (.inr rfl) rfl rfl) <| .nil ?_
   refine AW.sub [(4, _)] ⟨rfl, trivial⟩ ?_
   refine AW.ret ?_
   obtain rfl := Option.some.inj h0
   exact ⟨_, .tmp rfl rfl .nil, .inl ⟨rfl, rfl⟩, .inl ⟨rfl, rfl⟩, trivial⟩

theorem W13  {a : (Int × ((List (Int × ((List Int) × Unit))) × Unit))} {r : (Int × Bool)} (h0 : impl_CountCopies a = some r) : Meets Try.prog 13 [⟨ty26, 0, a⟩] [⟨tInt, 0, r.1⟩, ⟨.bool, 0, r.2⟩] [⟨ty26, 0, a⟩] := by
 refine Meets.of_body (fn := Try.f13) Try.func13 rfl rfl rfl fun c hn hfx => ?_
 unfold impl_CountCopies at h0
 refine AW.seq (AW.reg hn hfx rfl ?_)
 refine .cons rfl (r_box [] rfl rfl rfl) <| .cons rfl (r_copy (.inr rfl) rfl rfl) <| .cons rfl (r_copy (.inr rfl) rfl rfl) <| .nil ?_
 refine AW.sub [(1, _)] ⟨rfl, trivial⟩ ?_
 refine AW.seq ?_
 refine AW.seq (AW.reg hn hfx rfl ?_)
 refine .cons rfl (r_load rfl rfl rfl rfl ok26 rfl) ?_
 obtain ⟨x1, hx1, h0⟩ := bindE h0
 refine .cons rfl (r_call rfl rfl rfl Try.func29 rfl rfl (W29 hx1) rfl) <| .cons rfl (r_not rfl rfl rfl) <| .nil ?_
 refine AW.sub [(1, _), (8, _)] ⟨rfl, rfl, trivial⟩ ?_
 refine AW.ifP rfl h0 (fun h0 => ?_) (fun h0 => ?_)
 ·refine AW.seq (AW.reg hn hfx rfl ?_)
  refine .cons rfl (r_copy (.inr rfl) rfl rfl) <| .cons rfl (r_copy (.inr rfl) rfl rfl) <| .nil ?_
  refine AW.sub [(2, _), (3, _)] ⟨rfl, rfl, trivial⟩ ?_
  refine AW.ret ?_
  obtain rfl := Option.some.inj h0
  exact ⟨_, .tmp rfl rfl (.tmp rfl rfl .nil), .inl ⟨rfl, rfl⟩, trivial⟩
 ·refine AW.skip ?_
  refine AW.seq (AW.reg hn hfx rfl ?_)
  refine .cons rfl (r_copy (.inr rfl) rfl rfl) <| .nil ?_
  refine AW.sub [(1, _), (4, _)] ⟨rfl, rfl, trivial⟩ ?_
  refine AW.seq ?_
  refine AW.seq (AW.reg hn hfx rfl ?_)
  refine .cons rfl (r_copy (.inr rfl) rfl rfl) <| .nil ?_
  refine AW.sub [(1, _), (4, _), (5, _)] ⟨rfl, rfl, rfl, trivial⟩ ?_
  obtain ⟨z6, h1, h0⟩ := bindE h0
  refine AW.joinJ [(1, _)] ⟨rfl, trivial⟩ [(4, .val tInt 0 z6)] ?_ ?_
  ·refine AW.block ?_
   refine AW.loopP h1 [(1, _)] ⟨rfl, trivial⟩ (fun s8 => [(4, .val tInt 0 s8.1), (5, .val tInt 0 s8.2)]) ⟨rfl, rfl, rfl, trivial⟩ fun s8 z9 h2 => ?_
   refine AW.seq ?_
   refine AW.seq (AW.reg hn hfx rfl ?_)
   refine .cons rfl (r_copy (.inl rfl) rfl rfl) <| .cons rfl (r_field rfl rfl rfl rfl ok26 rfl rfl) <| .cons rfl (r_load rfl rfl rfl rfl ok3 rfl) <| .cons rfl (r_cmp rfl rfl rfl rfl rfl) <| .nil ?_
   refine AW.sub [(1, _), (4, _), (5, _), (12, _)] ⟨rfl, rfl, rfl, rfl, trivial⟩ ?_
   refine AW.ifP rfl h2 (fun h2 => ?_) (fun h2 => ?_)
   ·refine AW.skip ?_
    refine AW.seq (AW.block ?_)
    refine AW.reg hn hfx rfl ?_
    refine .cons rfl (r_copy (.inl rfl) rfl rfl) <| .cons rfl (r_copy (.inl rfl) rfl rfl) <| .cons rfl (r_arith rfl rfl rfl rfl rfl) <| .cons rfl (r_copy (.inr rfl) rfl rfl) <| .nil ?_
    refine AW.sub [(1, _), (4, _), (5, _)] ⟨rfl, rfl, rfl, trivial⟩ ?_
    refine AW.reg hn hfx rfl ?_
    refine .cons rfl (r_copy (.inl rfl) rfl rfl) <| .cons rfl (r_arith rfl rfl rfl rfl rfl) <| .cons rfl (r_copy (.inr rfl) rfl rfl) <| .nil ?_
    exact ⟨_, (Option.some.inj h2).symm, ⟨rfl, rfl, rfl, trivial⟩⟩
   ·refine AW.exit ?_
    refine ⟨_, (Option.some.inj h2).symm, fun hz => ?_⟩
    subst hz
    exact ⟨rfl, rfl, trivial⟩
  ·intro l1 hl1
   refine AW.weaken hl1.sub ?_
   refine AW.seq (AW.reg hn hfx rfl ?_)
   refine .cons rfl (r_copy (.inl rfl) rfl rfl) <| .cons rfl (r_load rfl rfl rfl rfl ok26 rfl) ?_
   obtain ⟨x11, hx11, h0⟩ := bindE h0
   refine .cons rfl (r_call rfl rfl rfl Try.func41 rfl rfl (W41 hx11) rfl) <| .cons rfl (r_len_own rfl rfl rfl rfl ok31 rfl) ?_
   refine RT.sub [(18, _), (21, _)] ⟨rfl, rfl, trivial⟩ ?_
   obtain ⟨_, hx12, h0⟩ := bindE h0
   refine .cons rfl (r_quo rfl rfl rfl (needE hx12) rfl) <| .cons rfl (r_copy (.inr rfl) rfl rfl) <| .cons rfl (r_copy (.inr rfl) rfl rfl) <| .nil ?_
   refine AW.sub [(2, _), (3, _)] ⟨rfl, rfl, trivial⟩ ?_
   refine AW.ret ?_
   obtain rfl := Option.some.inj h0
   exact ⟨_, .tmp rfl rfl (.tmp rfl rfl .nil), .inl ⟨rfl, rfl⟩, trivial⟩

theorem W45  {tables : (List (List Int))} {t : (List Int)} {r : Int} (h0 : spec_l12Place tables t = some r) : Meets Try.prog 45 [⟨ty31, 0, tables⟩, ⟨ty38, 0, t⟩] [⟨tInt, 0, r⟩] [⟨ty31, 0, tables⟩, ⟨ty38, 0, t⟩] := by
 refine Meets.of_body (fn := Try.f45) Try.func45 rfl rfl rfl fun c hn hfx => ?_
 unfold spec_l12Place at h0
 refine AW.seq (AW.reg hn hfx rfl ?_)
 refine .cons rfl (r_copy (.inr rfl) rfl rfl) <| .nil ?_
 refine AW.sub [(0, _), (1, _)] ⟨rfl, rfl, trivial⟩ ?_
 refine AW.seq ?_
 refine AW.seq (AW.reg hn hfx rfl ?_)
 refine .cons rfl (r_copy (.inr rfl) rfl rfl) <| .nil ?_
 refine AW.sub [(0, _), (1, _), (5, _)] ⟨rfl, rfl, rfl, trivial⟩ ?_
 obtain ⟨z9, h1, h0⟩ := bindE h0
 refine AW.joinX z9 [] trivial (fun s8 => []) ?_ ?_
 ·refine AW.block ?_
  refine AW.loopP h1 [(0, _), (1, _)] ⟨rfl, rfl, trivial⟩ (fun s13 => [(5, .val tInt 0 s13)]) ⟨rfl, rfl, rfl, trivial⟩ fun s13 z16 h2 => ?_
  refine AW.seq ?_
  refine AW.seq (AW.reg hn hfx rfl ?_)
  refine .cons rfl (r_copy (.inl rfl) rfl rfl) <| .cons rfl (r_copy (.inl rfl) rfl rfl) <| .cons rfl (r_len rfl rfl ok31 rfl) <| .cons rfl (r_cmp rfl rfl rfl rfl rfl) <| .nil ?_
  refine AW.sub [(0, _), (1, _), (5, _), (9, _)] ⟨rfl, rfl, rfl, rfl, trivial⟩ ?_
  refine AW.ifP rfl h2 (fun h2 => ?_) (fun h2 => ?_)
  ·refine AW.skip ?_
   refine AW.seq (AW.block ?_)
   refine AW.seq (AW.reg hn hfx rfl ?_)
   refine .cons rfl (r_copy (.inl rfl) rfl rfl) <| .cons rfl (r_copy (.inl rfl) rfl rfl) ?_
   obtain ⟨x14, hx14, h2⟩ := bindE h2
   refine .cons rfl (r_index_shared rfl rfl rfl ok31 (idx_nn hx14) (idx_get hx14)) <| .cons rfl (r_load_shared rfl rfl ok38) ?_
   refine RT.sub [(0, _), (1, _), (5, _), (15, _)] ⟨rfl, rfl, rfl, rfl, trivial⟩ ?_
   refine .cons rfl (r_copy (.inl rfl) rfl rfl) ?_
   obtain ⟨x15, hx15, h2⟩ := bindE h2
   refine .cons rfl (r_call rfl rfl rfl Try.func65 rfl rfl (W65 hx15) rfl) <| .nil ?_
   refine AW.sub [(0, _), (1, _), (5, _), (17, _)] ⟨rfl, rfl, rfl, rfl, trivial⟩ ?_
   refine AW.ifP rfl h2 (fun h2 => ?_) (fun h2 => ?_)
   ·refine AW.seq (AW.reg hn hfx rfl ?_)
    refine .cons rfl (r_copy (.inl rfl) rfl rfl) <| .cons rfl (r_copy (.inr rfl) rfl rfl) <| .nil ?_
    refine AW.sub [(4, _)] ⟨rfl, trivial⟩ ?_
    refine AW.ret ?_
    refine ⟨_, (Option.some.inj h2).symm, fun hz => ?_⟩
    subst hz
    obtain rfl := Option.some.inj h0
    exact ⟨_, .tmp rfl rfl .nil, .inl ⟨rfl, rfl⟩, .inl ⟨rfl, rfl⟩, trivial⟩
   ·refine AW.skip ?_
    refine AW.reg hn hfx rfl ?_
    refine .cons rfl (r_copy (.inl rfl) rfl rfl) <| .cons rfl (r_arith rfl rfl rfl rfl rfl) <| .cons rfl (r_copy (.inr rfl) rfl rfl) <| .nil ?_
    exact ⟨_, (Option.some.inj h2).symm, ⟨rfl, rfl, rfl, trivial⟩⟩
  ·refine AW.exit ?_
   refine ⟨_, (Option.some.inj h2).symm, fun hz => ?_⟩
   subst hz
   exact ⟨_, rfl, trivial⟩
 ·rintro s8 rfl l1 hl1
  refine AW.weaken hl1.sub ?_
  refine AW.seq (AW.reg hn hfx rfl ?_)
  refine .cons rfl (r_copy (.inr rfl) rfl rfl) <| .nil ?_
  refine AW.sub [(4, _)] ⟨rfl, trivial⟩ ?_
  refine AW.ret ?_
  obtain rfl := Option.some.inj h0
  exact ⟨_, .tmp rfl rfl .nil, .inl ⟨rfl, rfl⟩, .inl ⟨rfl, rfl⟩, trivial⟩

theorem W14  {a : (Int × ((List (Int × ((List Int) × Unit))) × Unit))} {r : (Int × Bool)} (h0 : spec_CountCopies a = some r) : Meets Try.prog 14 [⟨ty26, 0, a⟩] [⟨tInt, 0, r.1⟩, ⟨.bool, 0, r.2⟩] [⟨ty26, 0, a⟩] := by
 refine Meets.of_body (fn := Try.f14) Try.func14 rfl rfl rfl fun c hn hfx => ?_
 unfold spec_CountCopies at h0
 refine AW.seq (AW.reg hn hfx rfl ?_)
 refine .cons rfl (r_box [] rfl rfl rfl) <| .cons rfl (r_copy (.inr rfl) rfl rfl) <| .cons rfl (r_copy (.inr rfl) rfl rfl) <| .nil ?_
 refine AW.sub [(1, _)] ⟨rfl, trivial⟩ ?_
 refine AW.seq ?_
 refine AW.seq (AW.reg hn hfx rfl ?_)
 refine .cons rfl (r_load rfl rfl rfl rfl ok26 rfl) ?_
 obtain ⟨x1, hx1, h0⟩ := bindE h0
 refine .cons rfl (r_call rfl rfl rfl Try.func32 rfl rfl (W32 hx1) rfl) <| .cons rfl (r_not rfl rfl rfl) <| .nil ?_
 refine AW.sub [(1, _), (10, _)] ⟨rfl, rfl, trivial⟩ ?_
 refine AW.ifP rfl h0 (fun h0 => ?_) (fun h0 => ?_)
 ·refine AW.seq (AW.reg hn hfx rfl ?_)
  refine .cons rfl (r_copy (.inr rfl) rfl rfl) <| .cons rfl (r_copy (.inr rfl) rfl rfl) <| .nil ?_
  refine AW.sub [(2, _), (3, _)] ⟨rfl, rfl, trivial⟩ ?_
  refine AW.ret ?_
  obtain rfl := Option.some.inj h0
  exact ⟨_, .tmp rfl rfl (.tmp rfl rfl .nil), .inl ⟨rfl, rfl⟩, trivial⟩
 ·refine AW.skip ?_
  refine AW.seq (AW.reg hn hfx rfl ?_)
  refine .cons rfl (r_buildSlice [] (e := ty38) (mc := 1) rfl rfl rfl ok31 rfl rfl rfl) <| .cons rfl (r_assign [] (.inl rfl) rfl rfl) <| .nil ?_
  refine AW.sub [(1, _), (4, _)] ⟨rfl, rfl, trivial⟩ ?_
  refine AW.seq (AW.reg hn hfx rfl ?_)
  refine .cons rfl (r_field rfl rfl rfl rfl ok26 rfl rfl) <| .cons rfl (r_load rfl rfl rfl rfl ok3 rfl) <| .cons rfl (r_buildSlice [] (e := tInt) (mc := 0) rfl rfl rfl ok38 rfl rfl rfl) ?_
  obtain ⟨x2, hx2, h0⟩ := bindE h0
  refine .cons rfl (r_call rfl rfl rfl Try.func42 rfl rfl (W42 30 hx2) rfl) ?_
  refine RT.sub [(1, _), (4, _), (15, _)] ⟨rfl, rfl, rfl, trivial⟩ ?_
  refine .cons rfl (r_assign [] (.inl rfl) rfl rfl) <| .nil ?_
  refine AW.sub [(1, _), (4, _), (5, _)] ⟨rfl, rfl, rfl, trivial⟩ ?_
  refine AW.seq ?_
  refine AW.seq (AW.reg hn hfx rfl ?_)
  refine .cons rfl (r_copy (.inr rfl) rfl rfl) <| .nil ?_
  refine AW.sub [(1, _), (4, _), (5, _), (6, _)] ⟨rfl, rfl, rfl, rfl, trivial⟩ ?_
  obtain ⟨z25, h1, h0⟩ := bindE h0
  refine AW.joinJ [] trivial [(4, .val ty31 2 z25)] ?_ ?_
  ·refine AW.block ?_
   refine AW.loopP h1 [(1, _), (5, _)] ⟨rfl, rfl, trivial⟩ (fun s36 => [(4, .val ty31 2 s36.1), (6, .val tInt 0 s36.2)]) ⟨rfl, rfl, rfl, rfl, trivial⟩ fun s36 z46 h2 => ?_
   refine AW.seq ?_
   refine AW.seq (AW.reg hn hfx rfl ?_)
   refine .cons rfl (r_copy (.inl rfl) rfl rfl) <| .cons rfl (r_alias rfl rfl) <| .cons rfl (r_len_own rfl rfl rfl rfl ok31 rfl) <| .cons rfl (r_cmp rfl rfl rfl rfl rfl) <| .nil ?_
   refine AW.sub [(1, _), (4, _), (5, _), (6, _), (19, _)] ⟨rfl, rfl, rfl, rfl, rfl, trivial⟩ ?_
   refine AW.ifP rfl h2 (fun h2 => ?_) (fun h2 => ?_)
   ·refine AW.skip ?_
    refine AW.seq (AW.block ?_)
    refine AW.seq (AW.draw hmix hn hfx rfl rfl ?_)
    refine .cons rfl (r_load rfl rfl rfl rfl ok26 rfl) rfl rfl rfl <| .cons rfl (r_aliasF rfl) rfl rfl rfl <| .cons rfl (r_copy (.inl rfl) rfl rfl) rfl rfl rfl ?_
    obtain ⟨x37, hx37, h2⟩ := bindE h2
    refine .cons rfl (r_index_own rfl rfl rfl rfl rfl ok31 (idx_nn hx37) (idx_lt hx37)) rfl rfl rfl ?_
    refine DT.eq [(25, _), (24, _), (23, _), (22, _), (1, _), (4, _), (5, _), (6, _), (19, _)] rfl ?_
    refine .cons rfl (r_load_ref rfl rfl rfl (sub_app rfl (sub_e (idx_get hx37))) ok38) rfl rfl rfl ?_
    obtain ⟨x38, hx38, h2⟩ := bindE h2
    refine .cons rfl (r_call rfl rfl (lends_cons rfl (lends_cons (lend_ref (sub_app rfl (sub_e (idx_get hx37)))) lends_nil)) Try.func28 rfl rfl (W28 hx38) rfl) rfl rfl rfl ?_
    obtain ⟨x39, hx39, h2⟩ := bindE h2
    refine .cons rfl (r_call rfl rfl rfl Try.func44 rfl rfl (W44 hx39) rfl) rfl rfl rfl <| .cons rfl (r_assign [] (.inl rfl) rfl rfl) rfl rfl rfl <| .nil rfl ?_
    refine AW.sub [(1, _), (4, _), (5, _), (6, _), (7, _)] ⟨rfl, rfl, rfl, rfl, rfl, trivial⟩ ?_
    refine AW.seq (AW.reg hn hfx rfl ?_)
    refine .cons rfl (r_alias rfl rfl) <| .cons rfl (r_alias rfl rfl) ?_
    obtain ⟨x40, hx40, h2⟩ := bindE h2
    refine .cons rfl (r_call rfl rfl rfl Try.func45 rfl rfl (W45 hx40) rfl) <| .cons rfl (r_cmp rfl rfl rfl rfl rfl) <| .nil ?_
    refine AW.sub [(1, _), (4, _), (5, _), (6, _), (7, _), (32, _)] ⟨rfl, rfl, rfl, rfl, rfl, rfl, trivial⟩ ?_
    obtain ⟨z43, h3, h2⟩ := bindE h2
    refine AW.joinJ [(1, _), (5, _), (6, _)] ⟨rfl, rfl, rfl, trivial⟩ [(4, .val ty31 2 z43)] ?_ ?_
    ·refine AW.ifP rfl h3 (fun h3 => ?_) (fun h3 => ?_)
     ·refine AW.reg hn hfx rfl ?_
      refine .cons rfl (r_alias rfl rfl) <| .cons rfl (r_alias rfl rfl) <| .cons rfl (r_buildSlice [34] (e := ty38) (mc := 1) rfl rfl rfl ok31 rfl rfl rfl) ?_
      obtain ⟨x44, hx44, h3⟩ := bindE h3
      refine .cons rfl (r_append [] rfl rfl rfl ok31 rfl (mr := 1) rfl rfl (app_len hx44) (app_eq hx44)) ?_
      refine RT.sub [(1, _), (5, _), (6, _), (36, _)] ⟨rfl, rfl, rfl, rfl, trivial⟩ ?_
      refine .cons rfl (r_assign [] (.inl rfl) rfl rfl) <| .nil ?_
      obtain rfl := Option.some.inj h3
      exact ⟨rfl, rfl, rfl, rfl, trivial⟩
     ·refine AW.skip ?_
      obtain rfl := Option.some.inj h3
      exact ⟨rfl, rfl, rfl, rfl, trivial⟩
    ·intro l1 hl1
     refine AW.weaken hl1.sub ?_
     refine AW.reg hn hfx rfl ?_
     refine .cons rfl (r_copy (.inl rfl) rfl rfl) <| .cons rfl (r_arith rfl rfl rfl rfl rfl) <| .cons rfl (r_copy (.inr rfl) rfl rfl) <| .nil ?_
     exact ⟨_, (Option.some.inj h2).symm, ⟨rfl, rfl, rfl, rfl, trivial⟩⟩
   ·refine AW.exit ?_
    refine ⟨_, (Option.some.inj h2).symm, fun hz => ?_⟩
    subst hz
    exact ⟨rfl, trivial⟩
  ·intro l1 hl1
   refine AW.weaken hl1.sub ?_
   refine AW.seq (AW.reg hn hfx rfl ?_)
   refine .cons rfl (r_alias rfl rfl) <| .cons rfl (r_len_own rfl rfl rfl rfl ok31 rfl) <| .cons rfl (r_copy (.inr rfl) rfl rfl) <| .cons rfl (r_copy (.inr rfl) rfl rfl) <| .nil ?_
   refine AW.sub [(2, _), (3, _)] ⟨rfl, rfl, trivial⟩ ?_
   refine AW.ret ?_
   obtain rfl := Option.some.inj h0
   exact ⟨_, .tmp rfl rfl (.tmp rfl rfl .nil), .inl ⟨rfl, rfl⟩, trivial⟩

theorem W90_74 {s_0_c0 : Value} {s_l0 : (Int × ((List (Int × ((List Int) × Unit))) × Unit))} {s_l1 : (Int × ((List (Int × ((List Int) × Unit))) × Unit))} {s_l2 : Bool} {s_l3 : Int} {f : (List Int)} {s_0_c0_u1v : (List (List Int))} {r : (Bool × (List Int) × (List (List Int)))} (h0 : impl_homSearch_fits_with_listHoms_1 s_l0 s_l1 s_l2 s_l3 f s_0_c0_u1v = some r) : ∀ us0 : List Value, us0.length = 2 → MeetsU Try.prog 90 (us0 ++ []) [s_0_c0] ([⟨(.ptr ty91), 0, (s_l0, (s_l1, (s_l2, (s_l3, ((Value.func (Fn.func 74) #[] #[s_0_c0]), ())))))⟩, ⟨ty38, 1, f⟩] ++ [⟨(.ptr ty31), 3, s_0_c0_u1v⟩]) [⟨.bool, 0, r.1⟩] ([⟨(.ptr ty91), 0, (s_l0, (s_l1, (s_l2, (s_l3, ((Value.func (Fn.func 74) #[] #[s_0_c0]), ())))))⟩, ⟨ty38, 1, r.2.1⟩] ++ [⟨(.ptr ty31), 3, r.2.2⟩]) := by
 intro us0 hus0
 refine match us0, hus0 with | [w0, w1], _ => ?_
 refine MeetsU.of_body (n := 2) rfl (fn := Try.f90) Try.func90 rfl rfl rfl rfl rfl rfl fun c hn hfx hfix => ?_
 have hfix : ∀ p, p ∈ [(0, w0), (1, w1)] → p ∈ c.fix := hfix
 have k0 : (0, w0) ∈ c.fix := hfix _ (.head _)
 have k1 : (1, w1) ∈ c.fix := hfix _ (.tail _ (.head _))
 unfold impl_homSearch_fits_with_listHoms_1 at h0
 refine AW.seq (AW.reg hn hfx rfl ?_)
 refine .cons rfl (r_copy (.inr rfl) rfl rfl) <| .nil ?_
 refine AW.sub [(0, _), (1, _), (900000, _)] ⟨rfl, rfl, rfl, trivial⟩ ?_
 refine AW.seq ?_
 refine AW.seq (AW.draw hmix hn hfx rfl rfl ?_)
 refine .cons rfl (r_copy (.inl rfl) rfl rfl) rfl rfl rfl <| .cons rfl (r_nil_shared rfl rfl) rfl rfl rfl <| .cons rfl (r_field_shared rfl rfl ok91 rfl rfl rfl) rfl rfl rfl <| .cons rfl (r_load_shared rfl rfl ok26) rfl rfl rfl ?_
 refine DT.eq [(11, _), (10, _), (9, _), (8, _), (0, _), (1, _), (900000, _)] rfl ?_
 refine .cons rfl (r_copy (.inl rfl) rfl rfl) rfl rfl rfl <| .cons rfl (r_nil_shared rfl rfl) rfl rfl rfl <| .cons rfl (r_field_shared rfl rfl ok91 rfl rfl rfl) rfl rfl rfl <| .cons rfl (r_load_shared rfl rfl ok26) rfl rfl rfl ?_
 refine DT.eq [(15, _), (14, _), (13, _), (12, _), (11, _), (10, _), (9, _), (8, _), (0, _), (1, _), (900000, _)] rfl ?_
 refine .cons rfl (r_aliasF rfl) rfl rfl rfl ?_
 obtain ⟨x1, hx1, h0⟩ := bindE h0
 refine .cons rfl (r_callG (some (2, 1)) rfl rfl Try.func96 rfl rfl (W96 hx1) ⟨rfl, rfl, rfl, trivial⟩ rfl) rfl rfl rfl <| .cons rfl (r_not rfl rfl rfl) rfl rfl rfl <| .nil rfl ?_
 refine AW.sub [(0, _), (1, _), (18, _), (900000, _)] ⟨rfl, rfl, rfl, rfl, trivial⟩ ?_
 refine AW.ifP rfl h0 (fun h0 => ?_) (fun h0 => ?_)
 ·refine AW.seq (AW.reg hn hfx rfl ?_)
  refine .cons rfl (r_copy (.inr rfl) rfl rfl) <| .nil ?_
  refine AW.sub [(0, _), (1, _), (4, _), (900000, _)] ⟨rfl, rfl, rfl, rfl, trivial⟩ ?_
  refine AW.ret ?_
  obtain rfl := Option.some.inj h0
  exact ⟨_, .tmp rfl rfl .nil, ⟨.inl ⟨rfl, rfl⟩, .inr ⟨nofun, rfl⟩, trivial⟩, ⟨rfl, trivial⟩⟩
 ·refine AW.skip ?_
  refine AW.seq ?_
  refine AW.seq (AW.reg hn hfx rfl ?_)
  refine .cons rfl (r_copy (.inl rfl) rfl rfl) <| .cons rfl (r_nil_shared rfl rfl) <| .cons rfl (r_field_shared rfl rfl ok91 rfl rfl rfl) <| .cons rfl (r_load_shared rfl rfl ok4) ?_
  refine RT.sub [(0, _), (1, _), (22, _), (900000, _)] ⟨rfl, rfl, rfl, rfl, trivial⟩ ?_
  refine .cons rfl (r_not rfl rfl rfl) <| .nil ?_
  refine AW.sub [(0, _), (1, _), (23, _), (900000, _)] ⟨rfl, rfl, rfl, rfl, trivial⟩ ?_
  refine AW.ifP rfl h0 (fun h0 => ?_) (fun h0 => ?_)
  ·refine AW.seq (AW.reg hn hfx rfl ?_)
   refine .cons rfl (r_copy (.inr rfl) rfl rfl) <| .nil ?_
   refine AW.sub [(0, _), (1, _), (4, _), (900000, _)] ⟨rfl, rfl, rfl, rfl, trivial⟩ ?_
   refine AW.ret ?_
   obtain rfl := Option.some.inj h0
   exact ⟨_, .tmp rfl rfl .nil, ⟨.inl ⟨rfl, rfl⟩, .inr ⟨nofun, rfl⟩, trivial⟩, ⟨rfl, trivial⟩⟩
  ·refine AW.skip ?_
   refine AW.seq (AW.reg hn hfx rfl ?_)
   refine .cons rfl (r_copy (.inl rfl) rfl rfl) <| .cons rfl (r_nil_shared rfl rfl) <| .cons rfl (r_field_shared rfl rfl ok91 rfl rfl rfl) <| .cons rfl (r_field_shared rfl rfl ok26 rfl rfl rfl) ?_
   refine RT.sub [(0, _), (1, _), (27, _), (900000, _)] ⟨rfl, rfl, rfl, rfl, trivial⟩ ?_
   refine .cons rfl (r_load_shared rfl rfl ok3) ?_
   obtain ⟨x2, hx2, h0⟩ := bindE h0
   refine .cons rfl (r_mkS rfl rfl rfl ok74 rfl hx2) <| .cons rfl (r_assign [] (.inl rfl) rfl rfl) <| .nil ?_
   refine AW.sub [(0, _), (1, _), (5, _), (900000, _)] ⟨rfl, rfl, rfl, rfl, trivial⟩ ?_
   refine AW.seq ?_
   refine AW.seq (AW.reg hn hfx rfl ?_)
   refine .cons rfl (r_alias rfl rfl) <| .cons rfl (r_len_own rfl rfl rfl rfl ok38 rfl) <| .cons rfl (r_copy (.inl rfl) rfl rfl) <| .nil ?_
   refine AW.sub [(0, _), (1, _), (5, _), (30, _), (31, _), (32, _), (900000, _)] ⟨rfl, rfl, rfl, rfl, rfl, rfl, rfl, trivial⟩ ?_
   obtain ⟨z29, h1, h0⟩ := bindE h0
   refine AW.joinX z29 [(0, _), (1, _), (900000, _)] ⟨rfl, rfl, rfl, trivial⟩ (fun s28 => []) ?_ ?_
   ·refine AW.block ?_
    refine AW.loopP h1 [(0, _), (1, _), (30, _), (31, _), (900000, _)] ⟨rfl, rfl, rfl, rfl, rfl, trivial⟩ (fun s42 => [(5, .val ty74 1 s42.1), (32, .val tInt 0 s42.2)]) ⟨rfl, rfl, rfl, rfl, rfl, rfl, rfl, trivial⟩ fun s42 z54 h2 => ?_
    refine AW.seq (AW.reg hn hfx rfl ?_)
    refine .cons rfl (r_cmp rfl rfl rfl rfl rfl) <| .nil ?_
    refine AW.sub [(0, _), (1, _), (5, _), (30, _), (31, _), (32, _), (33, _), (900000, _)] ⟨rfl, rfl, rfl, rfl, rfl, rfl, rfl, rfl, trivial⟩ ?_
    refine AW.seq (AW.ifP rfl h2 (fun h2 => ?_) (fun h2 => ?_))
    ·refine AW.skip ?_
     refine AW.seq (AW.block ?_)
     refine AW.seq (AW.reg hn hfx rfl ?_)
     obtain ⟨x43, hx43, h2⟩ := bindE h2
     refine .cons rfl (r_index_own rfl rfl rfl rfl rfl ok38 (idx_nn hx43) (idx_lt hx43)) <| .cons rfl (r_load rfl rfl rfl (sub_app rfl (sub_e (idx_get hx43))) ok3 rfl) <| .cons rfl (r_copy (.inr rfl) rfl rfl) <| .nil ?_
     refine AW.sub [(0, _), (1, _), (5, _), (7, _), (30, _), (31, _), (32, _), (900000, _)] ⟨rfl, rfl, rfl, rfl, rfl, rfl, rfl, rfl, trivial⟩ ?_
     refine AW.seq ?_
     obtain ⟨z46, h3, h2⟩ := bindE h2
     refine AW.seq (AW.joinJ [(0, _), (1, _), (5, _), (7, _), (30, _), (31, _), (32, _), (900000, _)] ⟨rfl, rfl, rfl, rfl, rfl, rfl, rfl, rfl, trivial⟩ [(43, .val .bool 0 z46)] ?_ ?_)
     ·refine AW.reg hn hfx rfl ?_
      refine .cons rfl (r_copy (.inl rfl) rfl rfl) <| .cons rfl (r_cmp rfl rfl rfl rfl rfl) ?_
      refine .ifP (.inl rfl) rfl rfl h3 (fun h3 => ?_) (fun h3 => ?_)
      ·refine .cons (.inl ⟨_, _, _, rfl, rfl, rfl⟩) (r_alias rfl rfl) ?_
       refine RT.sub [(0, _), (1, _), (5, _), (7, _), (30, _), (31, _), (32, _), (38, _), (39, _), (900000, _)] ⟨rfl, rfl, rfl, rfl, rfl, rfl, rfl, rfl, rfl, rfl, trivial⟩ ?_
       refine .cons (.inl ⟨_, _, _, rfl, rfl, rfl⟩) (r_copy (.inl rfl) rfl rfl) ?_
       obtain ⟨x47, hx47, h3⟩ := bindE h3
       refine .cons (.inl ⟨_, _, _, rfl, rfl, rfl⟩) (r_index_own rfl rfl rfl rfl rfl ok74 (idx_nn hx47) (idx_lt hx47)) <| .cons (.inl ⟨_, _, _, rfl, rfl, rfl⟩) (r_load rfl rfl rfl (sub_app rfl (sub_e (idx_get hx47))) ok4 rfl) <| .cons rfl (r_pick_true rfl rfl rfl rfl) <| .nil ?_
       obtain rfl := Option.some.inj h3
       exact ⟨rfl, rfl, rfl, rfl, rfl, rfl, rfl, rfl, rfl, trivial⟩
      ·refine .pass (.inl ⟨_, _, _, rfl, rfl, rfl⟩) ?_
       refine RT.sub [(0, _), (1, _), (5, _), (7, _), (30, _), (31, _), (32, _), (38, _), (39, _), (900000, _)] ⟨rfl, rfl, rfl, rfl, rfl, rfl, rfl, rfl, rfl, rfl, trivial⟩ ?_
       refine .pass (.inl ⟨_, _, _, rfl, rfl, rfl⟩) <| .pass (.inl ⟨_, _, _, rfl, rfl, rfl⟩) <| .pass (.inl ⟨_, _, _, rfl, rfl, rfl⟩) <| .cons rfl (r_pick_false rfl rfl rfl rfl) <| .nil ?_
       obtain rfl := Option.some.inj h3
       exact ⟨rfl, rfl, rfl, rfl, rfl, rfl, rfl, rfl, rfl, trivial⟩
     ·intro l1 hl1
      refine AW.weaken hl1.sub ?_
      refine AW.ifP rfl h2 (fun h2 => ?_) (fun h2 => ?_)
      ·refine AW.seq (AW.reg hn hfx rfl ?_)
       refine .cons rfl (r_copy (.inr rfl) rfl rfl) <| .nil ?_
       refine AW.sub [(0, _), (1, _), (4, _), (900000, _)] ⟨rfl, rfl, rfl, rfl, trivial⟩ ?_
       refine AW.ret ?_
       refine ⟨_, (Option.some.inj h2).symm, fun hz => ?_⟩
       subst hz
       obtain rfl := Option.some.inj h0
       exact ⟨_, .tmp rfl rfl .nil, ⟨.inl ⟨rfl, rfl⟩, .inr ⟨nofun, rfl⟩, trivial⟩, ⟨rfl, trivial⟩⟩
      ·refine AW.skip ?_
       refine AW.seq (AW.reg hn hfx rfl ?_)
       refine .cons rfl (r_copy (.inl rfl) rfl rfl) <| .cons rfl (r_cmp rfl rfl rfl rfl rfl) <| .nil ?_
       refine AW.sub [(0, _), (1, _), (5, _), (7, _), (30, _), (31, _), (32, _), (45, _), (900000, _)] ⟨rfl, rfl, rfl, rfl, rfl, rfl, rfl, rfl, rfl, trivial⟩ ?_
       obtain ⟨z51, h3, h2⟩ := bindE h2
       refine AW.joinJ [(0, _), (1, _), (30, _), (31, _), (32, _), (900000, _)] ⟨rfl, rfl, rfl, rfl, rfl, rfl, trivial⟩ [(5, .val ty74 1 z51)] ?_ ?_
       ·refine AW.ifP rfl h3 (fun h3 => ?_) (fun h3 => ?_)
        ·refine AW.reg hn hfx rfl ?_
         refine .cons rfl (r_alias rfl rfl) <| .cons rfl (r_copy (.inl rfl) rfl rfl) ?_
         obtain ⟨x52, hx52, h3⟩ := bindE h3
         refine .cons rfl (r_index_own rfl rfl rfl rfl rfl ok74 (idx_nn hx52) (idx_lt hx52)) <| .cons rfl (r_store [] rfl rfl rfl rfl rfl rfl rfl (sub_app rfl (sub_e (idx_get hx52))) ok4 rfl rfl rfl (repl_app rfl (repl_e (idx_get hx52)) rfl)) <| .nil ?_
         obtain rfl := Option.some.inj h3
         exact ⟨rfl, rfl, rfl, rfl, rfl, rfl, rfl, trivial⟩
        ·refine AW.skip ?_
         obtain rfl := Option.some.inj h3
         exact ⟨rfl, rfl, rfl, rfl, rfl, rfl, rfl, trivial⟩
       ·intro l1 hl1
        refine AW.weaken hl1.sub ?_
        refine AW.reg hn hfx rfl ?_
        refine .cons rfl (r_arith rfl rfl rfl rfl rfl) <| .cons rfl (r_copy (.inl rfl) rfl rfl) <| .nil ?_
        exact ⟨_, (Option.some.inj h2).symm, ⟨rfl, rfl, rfl, rfl, rfl, rfl, rfl, trivial⟩⟩
    ·refine AW.exit ?_
     refine ⟨_, (Option.some.inj h2).symm, fun hz => ?_⟩
     subst hz
     exact ⟨_, rfl, ⟨rfl, rfl, rfl, trivial⟩⟩
   ·rintro s28 rfl l1 hl1
    refine AW.weaken hl1.sub ?_
    refine AW.seq (AW.reg hn hfx rfl ?_)
    refine .cons rfl (r_copy (.inr rfl) rfl rfl) <| .nil ?_
    refine AW.sub [(0, _), (1, _), (4, _), (900000, _)] ⟨rfl, rfl, rfl, rfl, trivial⟩ ?_
    refine AW.ret ?_
    obtain rfl := Option.some.inj h0
    exact ⟨_, .tmp rfl rfl .nil, ⟨.inl ⟨rfl, rfl⟩, .inr ⟨nofun, rfl⟩, trivial⟩, ⟨rfl, trivial⟩⟩

theorem W74  {f : (List Int)} {u1v : (List (List Int))} {r : (Bool × (List (List Int)))} (h0 : impl_listHoms_1 f u1v = some r) : Meets Try.prog 74 [⟨ty38, 0, f⟩, ⟨(.ptr ty31), 3, u1v⟩] [⟨.bool, 0, r.1⟩] [⟨ty38, 0, f⟩, ⟨(.ptr ty31), 3, r.2⟩] := by
 refine Meets.of_body (fn := Try.f74) Try.func74 rfl rfl rfl fun c hn hfx => ?_
 unfold impl_listHoms_1 at h0
 refine AW.seq (AW.reg hn hfx rfl ?_)
 refine .cons rfl (r_copy (.inr rfl) rfl rfl) <| .nil ?_
 refine AW.sub [(0, _), (1, _)] ⟨rfl, rfl, trivial⟩ ?_
 refine AW.seq (AW.draw hmix hn hfx rfl rfl ?_)
 refine .cons rfl (r_load_ref rfl rfl rfl rfl ok31) rfl rfl rfl <| .cons rfl (r_copy (.inl rfl) rfl rfl) rfl rfl rfl ?_
 obtain ⟨x1, hx1, h0⟩ := bindE h0
 refine .cons rfl (r_call rfl rfl rfl Try.func63 rfl rfl (W63 hx1) rfl) rfl rfl rfl <| .cons rfl (r_buildSlice [] (e := ty38) (mc := 1) rfl rfl rfl ok31 rfl rfl rfl) rfl rfl rfl ?_
 refine DT.eq [(7, _), (5, _), (4, _), (0, _), (1, _)] rfl ?_
 obtain ⟨x2, hx2, h0⟩ := bindE h0
 refine .cons rfl (r_append [] rfl rfl rfl ok31 rfl (mr := 1) rfl rfl (app_len hx2) (app_eq hx2)) rfl rfl rfl <| .cons rfl (r_store [] rfl rfl rfl rfl rfl rfl rfl rfl ok31 rfl rfl rfl rfl) rfl rfl rfl <| .nil rfl ?_
 refine AW.sub [(1, _)] ⟨rfl, trivial⟩ ?_
 refine AW.seq (AW.reg hn hfx rfl ?_)
 refine .cons rfl (r_load_ref rfl rfl rfl rfl ok31) <| .cons rfl (r_len_own rfl rfl rfl rfl ok31 rfl) <| .cons rfl (r_cmp rfl rfl rfl rfl rfl) <| .cons rfl (r_copy (.inr rfl) rfl rfl) <| .nil ?_
 refine AW.sub [(1, _), (3, _)] ⟨rfl, rfl, trivial⟩ ?_
 refine AW.ret ?_
 obtain rfl := Option.some.inj h0
 exact ⟨_, .tmp rfl rfl .nil, .inl ⟨rfl, rfl⟩, .inr ⟨nofun, rfl⟩, trivial⟩

theorem W91_74 : ∀ (fuel : Nat) {s_0_c0 : Value} {s_l0 : (Int × ((List (Int × ((List Int) × Unit))) × Unit))} {s_l1 : (Int × ((List (Int × ((List Int) × Unit))) × Unit))} {s_l2 : Bool} {s_l3 : Int} {f : (List Int)} {s_0_c0_u1v : (List (List Int))} {r : (Bool × Int × (List (List Int)))} (_ : impl_homSearch_extend_with_listHoms_1 fuel s_l0 s_l1 s_l2 s_l3 f s_0_c0_u1v = some r), ∀ us0 : List Value, us0.length = 2 → MeetsU Try.prog 91 (us0 ++ []) [s_0_c0] ([⟨(.ptr ty91), 1, (s_l0, (s_l1, (s_l2, (s_l3, ((Value.func (Fn.func 74) #[] #[s_0_c0]), ())))))⟩, ⟨ty38, 0, f⟩] ++ [⟨(.ptr ty31), 3, s_0_c0_u1v⟩]) [⟨.bool, 0, r.1⟩] ([⟨(.ptr ty91), 1, (s_l0, (s_l1, (s_l2, (r.2.1, ((Value.func (Fn.func 74) #[] #[s_0_c0]), ())))))⟩, ⟨ty38, 0, f⟩] ++ [⟨(.ptr ty31), 3, r.2.2⟩]) := by
 intro fuel
 induction fuel with
 | zero => intro s_0_c0 s_l0 s_l1 s_l2 s_l3 f s_0_c0_u1v r h0; cases h0
 | succ fuel ih =>
 intro s_0_c0 s_l0 s_l1 s_l2 s_l3 f s_0_c0_u1v r h0
 intro us0 hus0
 refine match us0, hus0 with | [w0, w1], _ => ?_
 refine MeetsU.of_body (n := 2) rfl (fn := Try.f91) Try.func91 rfl rfl rfl rfl rfl rfl fun c hn hfx hfix => ?_
 have hfix : ∀ p, p ∈ [(0, w0), (1, w1)] → p ∈ c.fix := hfix
 have k0 : (0, w0) ∈ c.fix := hfix _ (.head _)
 have k1 : (1, w1) ∈ c.fix := hfix _ (.tail _ (.head _))
 rw [impl_homSearch_extend_with_listHoms_1] at h0
 refine AW.seq (AW.reg hn hfx rfl ?_)
 refine .cons rfl (r_copy (.inr rfl) rfl rfl) <| .nil ?_
 refine AW.sub [(0, _), (1, _), (900000, _)] ⟨rfl, rfl, rfl, trivial⟩ ?_
 refine AW.seq (AW.reg hn hfx rfl ?_)
 refine .cons rfl (r_copy (.inr rfl) rfl rfl) <| .nil ?_
 refine AW.sub [(0, _), (1, _), (5, _), (900000, _)] ⟨rfl, rfl, rfl, rfl, trivial⟩ ?_
 obtain ⟨z15, h1, h0⟩ := bindE h0
 refine AW.seq (AW.joinJ [(0, _), (1, _), (900000, _)] ⟨rfl, rfl, rfl, trivial⟩ [(5, .val tInt 0 z15)] ?_ ?_)
 ·refine AW.block ?_
  refine AW.loopP h1 [(0, _), (1, _), (900000, _)] ⟨rfl, rfl, rfl, trivial⟩ (fun s22 => [(5, .val tInt 0 s22)]) ⟨rfl, rfl, rfl, rfl, trivial⟩ fun s22 z28 h2 => ?_
  refine AW.seq ?_
  refine AW.sub [(0, _), (1, _), (5, _), (900000, _)] ⟨rfl, rfl, rfl, rfl, trivial⟩ ?_
  obtain ⟨z25, h3, h2⟩ := bindE h2
  refine AW.seq (AW.joinJ [(0, _), (1, _), (5, _), (900000, _)] ⟨rfl, rfl, rfl, rfl, trivial⟩ [(18, .val .bool 0 z25)] ?_ ?_)
  ·refine AW.reg hn hfx rfl ?_
   refine .cons rfl (r_copy (.inl rfl) rfl rfl) <| .cons rfl (r_copy (.inl rfl) rfl rfl) <| .cons rfl (r_len rfl rfl ok38 rfl) <| .cons rfl (r_cmp rfl rfl rfl rfl rfl) ?_
   refine RT.sub [(0, _), (1, _), (5, _), (11, _), (900000, _)] ⟨rfl, rfl, rfl, rfl, rfl, trivial⟩ ?_
   refine .ifP (.inl rfl) rfl rfl h3 (fun h3 => ?_) (fun h3 => ?_)
   ·refine .cons (.inl ⟨_, _, _, rfl, rfl, rfl⟩) (r_copy (.inl rfl) rfl rfl) <| .cons (.inl ⟨_, _, _, rfl, rfl, rfl⟩) (r_copy (.inl rfl) rfl rfl) ?_
    obtain ⟨x26, hx26, h3⟩ := bindE h3
    refine .cons (.inl ⟨_, _, _, rfl, rfl, rfl⟩) (r_index_shared rfl rfl rfl ok38 (idx_nn hx26) (idx_get hx26)) ?_
    refine RT.sub [(0, _), (1, _), (5, _), (12, _), (15, _), (900000, _)] ⟨rfl, rfl, rfl, rfl, rfl, rfl, trivial⟩ ?_
    refine .cons (.inl ⟨_, _, _, rfl, rfl, rfl⟩) (r_load_shared rfl rfl ok3) <| .cons (.inl ⟨_, _, _, rfl, rfl, rfl⟩) (r_cmp rfl rfl rfl rfl rfl) <| .cons rfl (r_pick_true rfl rfl rfl rfl) <| .nil ?_
    obtain rfl := Option.some.inj h3
    exact ⟨rfl, rfl, rfl, rfl, rfl, trivial⟩
   ·refine .pass (.inl ⟨_, _, _, rfl, rfl, rfl⟩) <| .pass (.inl ⟨_, _, _, rfl, rfl, rfl⟩) <| .pass (.inl ⟨_, _, _, rfl, rfl, rfl⟩) ?_
    refine RT.sub [(0, _), (1, _), (5, _), (12, _), (15, _), (900000, _)] ⟨rfl, rfl, rfl, rfl, rfl, rfl, trivial⟩ ?_
    refine .pass (.inl ⟨_, _, _, rfl, rfl, rfl⟩) <| .pass (.inl ⟨_, _, _, rfl, rfl, rfl⟩) <| .cons rfl (r_pick_false rfl rfl rfl rfl) <| .nil ?_
    obtain rfl := Option.some.inj h3
    exact ⟨rfl, rfl, rfl, rfl, rfl, trivial⟩
  ·intro l1 hl1
   refine AW.weaken hl1.sub ?_
   refine AW.ifP rfl h2 (fun h2 => ?_) (fun h2 => ?_)
   ·refine AW.skip ?_
    refine AW.block ?_
    refine AW.reg hn hfx rfl ?_
    refine .cons rfl (r_copy (.inl rfl) rfl rfl) <| .cons rfl (r_arith rfl rfl rfl rfl rfl) <| .cons rfl (r_copy (.inr rfl) rfl rfl) <| .nil ?_
    exact ⟨_, (Option.some.inj h2).symm, ⟨rfl, rfl, rfl, rfl, trivial⟩⟩
   ·refine AW.exit ?_
    refine ⟨_, (Option.some.inj h2).symm, fun hz => ?_⟩
    subst hz
    exact ⟨rfl, rfl, rfl, rfl, trivial⟩
 ·intro l1 hl1
  refine AW.weaken hl1.sub ?_
  refine AW.seq ?_
  refine AW.seq (AW.reg hn hfx rfl ?_)
  refine .cons rfl (r_copy (.inl rfl) rfl rfl) <| .cons rfl (r_copy (.inl rfl) rfl rfl) <| .cons rfl (r_len rfl rfl ok38 rfl) <| .cons rfl (r_cmp rfl rfl rfl rfl rfl) <| .nil ?_
  refine AW.sub [(0, _), (1, _), (5, _), (24, _), (900000, _)] ⟨rfl, rfl, rfl, rfl, rfl, trivial⟩ ?_
  refine AW.ifP rfl h0 (fun h0 => ?_) (fun h0 => ?_)
  ·refine AW.seq (AW.reg hn hfx rfl ?_)
   refine .cons rfl (r_alias rfl rfl) <| .cons rfl (r_nil rfl rfl rfl) <| .cons rfl (r_field rfl rfl rfl rfl ok91 rfl rfl) <| .cons rfl (r_load rfl rfl rfl rfl ok61 rfl) ?_
   refine RT.sub [(0, _), (1, _), (28, _), (900000, _)] ⟨rfl, rfl, rfl, rfl, trivial⟩ ?_
   refine .cons rfl (r_copy (.inl rfl) rfl rfl) ?_
   obtain ⟨x30, hx30, h0⟩ := bindE h0
   refine .cons rfl (r_callM [] rfl rfl rfl Try.func74 rfl rfl (fun us0 _ => (W74 hx30).toU (us0 ++ [s_0_c0])) (.lend rfl (.gio (r := 900000) rfl .nil)) rfl) <| .cons rfl (r_copy (.inr rfl) rfl rfl) <| .nil ?_
   refine AW.sub [(0, _), (1, _), (4, _), (900000, _)] ⟨rfl, rfl, rfl, rfl, trivial⟩ ?_
   refine AW.ret ?_
   obtain rfl := Option.some.inj h0
   exact ⟨_, .tmp rfl rfl .nil, ⟨.inr ⟨nofun, rfl⟩, .inl ⟨rfl, rfl⟩, trivial⟩, ⟨rfl, trivial⟩⟩
  ·refine AW.skip ?_
   refine AW.seq ?_
   refine AW.seq (AW.reg hn hfx rfl ?_)
   refine .cons rfl (r_copy (.inr rfl) rfl rfl) <| .nil ?_
   refine AW.sub [(0, _), (1, _), (5, _), (6, _), (900000, _)] ⟨rfl, rfl, rfl, rfl, rfl, trivial⟩ ?_
   obtain ⟨z53, h1, h0⟩ := bindE h0
   refine AW.joinX z53 [(1, _)] ⟨rfl, trivial⟩ (fun s52 => [(0, .val (.ptr ty91) 1 (s_l0, (s_l1, (s_l2, (s52.1, ((Value.func (Fn.func 74) #[] #[s_0_c0]), ())))))), (900000, .gh s_0_c0 (.ptr ty31) 3 s52.2)]) ?_ ?_
   ·refine AW.block ?_
    refine AW.loopP h1 [(1, _), (5, _)] ⟨rfl, rfl, trivial⟩ (fun s64 => [(0, .val (.ptr ty91) 1 (s_l0, (s_l1, (s_l2, (s64.1, ((Value.func (Fn.func 74) #[] #[s_0_c0]), ())))))), (6, .val tInt 0 s64.2.1), (900000, .gh s_0_c0 (.ptr ty31) 3 s64.2.2)]) ⟨rfl, rfl, rfl, rfl, rfl, trivial⟩ fun s64 z74 h2 => ?_
    refine AW.seq ?_
    refine AW.seq (AW.reg hn hfx rfl ?_)
    refine .cons rfl (r_copy (.inl rfl) rfl rfl) <| .cons rfl (r_alias rfl rfl) <| .cons rfl (r_nil rfl rfl rfl) <| .cons rfl (r_field rfl rfl rfl rfl ok91 rfl rfl) ?_
    refine RT.sub [(0, _), (1, _), (5, _), (6, _), (31, _), (34, _), (900000, _)] ⟨rfl, rfl, rfl, rfl, rfl, rfl, rfl, trivial⟩ ?_
    refine .cons rfl (r_field rfl rfl rfl rfl ok26 rfl rfl) <| .cons rfl (r_load rfl rfl rfl rfl ok3 rfl) <| .cons rfl (r_cmp rfl rfl rfl rfl rfl) <| .nil ?_
    refine AW.sub [(0, _), (1, _), (5, _), (6, _), (37, _), (900000, _)] ⟨rfl, rfl, rfl, rfl, rfl, rfl, trivial⟩ ?_
    refine AW.ifP rfl h2 (fun h2 => ?_) (fun h2 => ?_)
    ·refine AW.skip ?_
     refine AW.seq (AW.block ?_)
     refine AW.seq ?_
     refine AW.seq (AW.reg hn hfx rfl ?_)
     refine .cons rfl (r_alias rfl rfl) <| .cons rfl (r_nil rfl rfl rfl) <| .cons rfl (r_field rfl rfl rfl rfl ok91 rfl rfl) <| .cons rfl (r_load rfl rfl rfl rfl ok3 rfl) ?_
     refine RT.sub [(0, _), (1, _), (5, _), (6, _), (40, _), (43, _), (900000, _)] ⟨rfl, rfl, rfl, rfl, rfl, rfl, rfl, trivial⟩ ?_
     refine .cons rfl (r_arith rfl rfl rfl rfl rfl) <| .cons rfl (r_nil rfl rfl rfl) <| .cons rfl (r_field rfl rfl rfl rfl ok91 rfl rfl) <| .cons rfl (r_store [] rfl rfl rfl rfl rfl rfl rfl rfl ok3 rfl rfl rfl rfl) <| .nil ?_
     refine AW.sub [(0, _), (1, _), (5, _), (6, _), (900000, _)] ⟨rfl, rfl, rfl, rfl, rfl, trivial⟩ ?_
     refine AW.seq (AW.reg hn hfx rfl ?_)
     refine .cons rfl (r_alias rfl rfl) <| .cons rfl (r_nil rfl rfl rfl) <| .cons rfl (r_field rfl rfl rfl rfl ok91 rfl rfl) <| .cons rfl (r_load rfl rfl rfl rfl ok3 rfl) ?_
     refine RT.sub [(0, _), (1, _), (5, _), (6, _), (50, _), (900000, _)] ⟨rfl, rfl, rfl, rfl, rfl, rfl, trivial⟩ ?_
     refine .cons rfl (r_cmp rfl rfl rfl rfl rfl) <| .nil ?_
     refine AW.sub [(0, _), (1, _), (5, _), (6, _), (51, _), (900000, _)] ⟨rfl, rfl, rfl, rfl, rfl, rfl, trivial⟩ ?_
     refine AW.ifP rfl h2 (fun h2 => ?_) (fun h2 => ?_)
     ·refine AW.seq (AW.reg hn hfx rfl ?_)
      refine .cons rfl (r_copy (.inr rfl) rfl rfl) <| .nil ?_
      refine AW.sub [(0, _), (1, _), (4, _), (900000, _)] ⟨rfl, rfl, rfl, rfl, trivial⟩ ?_
      refine AW.ret ?_
      refine ⟨_, (Option.some.inj h2).symm, fun hz => ?_⟩
      subst hz
      obtain rfl := Option.some.inj h0
      exact ⟨_, .tmp rfl rfl .nil, ⟨.inr ⟨nofun, rfl⟩, .inl ⟨rfl, rfl⟩, trivial⟩, ⟨rfl, trivial⟩⟩
     ·refine AW.skip ?_
      refine AW.seq (AW.reg hn hfx rfl ?_)
      refine .cons rfl (r_copy (.inl rfl) rfl rfl) ?_
      obtain ⟨x65, hx65, h2⟩ := bindE h2
      refine .cons rfl (r_call rfl rfl rfl Try.func63 rfl rfl (W63 hx65) rfl) <| .cons rfl (r_assign [] (.inl rfl) rfl rfl) <| .nil ?_
      refine AW.sub [(0, _), (1, _), (5, _), (6, _), (7, _), (900000, _)] ⟨rfl, rfl, rfl, rfl, rfl, rfl, trivial⟩ ?_
      refine AW.seq (AW.reg hn hfx rfl ?_)
      refine .cons rfl (r_alias rfl rfl) <| .cons rfl (r_copy (.inl rfl) rfl rfl) <| .cons rfl (r_copy (.inl rfl) rfl rfl) ?_
      obtain ⟨x66, hx66, h2⟩ := bindE h2
      refine .cons rfl (r_index_own rfl rfl rfl rfl rfl ok38 (idx_nn hx66) (idx_lt hx66)) ?_
      refine RT.sub [(0, _), (1, _), (5, _), (6, _), (7, _), (56, _), (57, _), (900000, _)] ⟨rfl, rfl, rfl, rfl, rfl, rfl, rfl, rfl, trivial⟩ ?_
      refine .cons rfl (r_store [] rfl rfl rfl rfl rfl rfl rfl (sub_app rfl (sub_e (idx_get hx66))) ok3 rfl rfl rfl (repl_app rfl (repl_e (idx_get hx66)) rfl)) <| .nil ?_
      refine AW.sub [(0, _), (1, _), (5, _), (6, _), (7, _), (900000, _)] ⟨rfl, rfl, rfl, rfl, rfl, rfl, trivial⟩ ?_
      obtain ⟨z70, h3, h2⟩ := bindE h2
      refine AW.seq (AW.joinJ [(1, _), (5, _), (6, _)] ⟨rfl, rfl, rfl, trivial⟩ [(0, .val (.ptr ty91) 1 (s_l0, (s_l1, (s_l2, (z70.1, ((Value.func (Fn.func 74) #[] #[s_0_c0]), ())))))), (66, .val .bool 0 z70.2.1), (900000, .gh s_0_c0 (.ptr ty31) 3 z70.2.2)] ?_ ?_)
      ·refine AW.reg hn hfx rfl ?_
       refine .cons rfl (r_alias rfl rfl) <| .cons rfl (r_alias rfl rfl) ?_
       obtain ⟨x71, hx71, h3⟩ := bindE h3
       refine .cons rfl (r_callM [s_0_c0] rfl rfl rfl Try.func90 rfl rfl (W90_74 (s_0_c0 := s_0_c0) hx71) (.lend rfl (.io rfl (.gio (r := 900000) rfl .nil))) rfl) ?_
       refine .ifP (.inl rfl) rfl rfl h3 (fun h3 => ?_) (fun h3 => ?_)
       ·refine RT.sub [(0, _), (1, _), (5, _), (6, _), (7, _), (61, _), (900000, _)] ⟨rfl, rfl, rfl, rfl, rfl, rfl, rfl, trivial⟩ ?_
        refine .cons (.inl ⟨_, _, _, rfl, rfl, rfl⟩) (r_alias rfl rfl) <| .cons (.inl ⟨_, _, _, rfl, rfl, rfl⟩) (r_alias rfl rfl) ?_
        refine RT.lower 7 0 rfl ?_
        obtain ⟨x72, hx72, h3⟩ := bindE h3
        refine .cons (.inl ⟨_, _, _, rfl, rfl, rfl⟩) (r_callM [s_0_c0] rfl rfl rfl Try.func91 rfl rfl (ih (s_0_c0 := s_0_c0) hx72) (.io rfl (.lend rfl (.gio (r := 900000) rfl .nil))) rfl) <| .cons (.inl ⟨_, _, _, rfl, rfl, rfl⟩) (r_not rfl rfl rfl) ?_
        refine RT.sub [(0, _), (1, _), (5, _), (6, _), (61, _), (65, _), (900000, _)] ⟨rfl, rfl, rfl, rfl, rfl, rfl, rfl, trivial⟩ ?_
        refine .cons rfl (r_pick_true rfl rfl rfl rfl) <| .nil ?_
        obtain rfl := Option.some.inj h3
        exact ⟨rfl, rfl, rfl, rfl, rfl, rfl, trivial⟩
       ·refine RT.sub [(0, _), (1, _), (5, _), (6, _), (7, _), (61, _), (900000, _)] ⟨rfl, rfl, rfl, rfl, rfl, rfl, rfl, trivial⟩ ?_
        refine .pass (.inl ⟨_, _, _, rfl, rfl, rfl⟩) <| .pass (.inl ⟨_, _, _, rfl, rfl, rfl⟩) <| .pass (.inl ⟨_, _, _, rfl, rfl, rfl⟩) <| .pass (.inl ⟨_, _, _, rfl, rfl, rfl⟩) ?_
        refine RT.sub [(0, _), (1, _), (5, _), (6, _), (61, _), (65, _), (900000, _)] ⟨rfl, rfl, rfl, rfl, rfl, rfl, rfl, trivial⟩ ?_
        refine .cons rfl (r_pick_false rfl rfl rfl rfl) <| .nil ?_
        obtain rfl := Option.some.inj h3
        exact ⟨rfl, rfl, rfl, rfl, rfl, rfl, trivial⟩
      ·intro l1 hl1
       refine AW.weaken hl1.sub ?_
       refine AW.ifP rfl h2 (fun h2 => ?_) (fun h2 => ?_)
       ·refine AW.seq (AW.reg hn hfx rfl ?_)
        refine .cons rfl (r_copy (.inr rfl) rfl rfl) <| .nil ?_
        refine AW.sub [(0, _), (1, _), (4, _), (900000, _)] ⟨rfl, rfl, rfl, rfl, trivial⟩ ?_
        refine AW.ret ?_
        refine ⟨_, (Option.some.inj h2).symm, fun hz => ?_⟩
        subst hz
        obtain rfl := Option.some.inj h0
        exact ⟨_, .tmp rfl rfl .nil, ⟨.inr ⟨nofun, rfl⟩, .inl ⟨rfl, rfl⟩, trivial⟩, ⟨rfl, trivial⟩⟩
       ·refine AW.skip ?_
        refine AW.reg hn hfx rfl ?_
        refine .cons rfl (r_copy (.inl rfl) rfl rfl) <| .cons rfl (r_arith rfl rfl rfl rfl rfl) <| .cons rfl (r_copy (.inr rfl) rfl rfl) <| .nil ?_
        exact ⟨_, (Option.some.inj h2).symm, ⟨rfl, rfl, rfl, rfl, rfl, trivial⟩⟩
    ·refine AW.exit ?_
     refine ⟨_, (Option.some.inj h2).symm, fun hz => ?_⟩
     subst hz
     exact ⟨_, rfl, ⟨rfl, rfl, rfl, trivial⟩⟩
   ·rintro s52 rfl l1 hl1
    refine AW.weaken hl1.sub ?_
    refine AW.seq (AW.reg hn hfx rfl ?_)
    refine .cons rfl (r_copy (.inr rfl) rfl rfl) <| .nil ?_
    refine AW.sub [(0, _), (1, _), (4, _), (900000, _)] ⟨rfl, rfl, rfl, rfl, trivial⟩ ?_
    refine AW.ret ?_
    obtain rfl := Option.some.inj h0
    exact ⟨_, .tmp rfl rfl .nil, ⟨.inr ⟨nofun, rfl⟩, .inl ⟨rfl, rfl⟩, trivial⟩, ⟨rfl, trivial⟩⟩

end Go.Proofs.Ytoaajjhcdbbfdaa
namespace Go.Proofs.Ytoaajjhcdbbfdaa
open Go.Abs Go.Pure
-- theorem hmix : Try.prog.follows .mixedOrders = true := by kernel_rfl
theorem W69_74 {found_c0 : Value} {a : (Int × ((List (Int × ((List Int) × Unit))) × Unit))} {b : (Int × ((List (Int × ((List Int) × Unit))) × Unit))} {embed : Bool} {found_c0_u1v : (List (List Int))} {r : (Bool × (List (List Int)))} (h0 : impl_searchHoms_with_listHoms_1 a b embed found_c0_u1v = some r) : ∀ us0 : List Value, us0.length = 4 → MeetsU Try.prog 69 (us0 ++ []) [found_c0] ([⟨ty26, 0, a⟩, ⟨ty26, 0, b⟩, ⟨.bool, 0, embed⟩, ⟨.raw, 0, (Value.func (Fn.func 74) #[] #[found_c0])⟩] ++ [⟨(.ptr ty31), 3, found_c0_u1v⟩]) [⟨.bool, 0, r.1⟩] ([⟨ty26, 0, a⟩, ⟨ty26, 0, b⟩, ⟨.bool, 0, embed⟩, ⟨.raw, 0, (Value.func (Fn.func 74) #[] #[found_c0])⟩] ++ [⟨(.ptr ty31), 3, r.2⟩]) := by
 intro us0 hus0
 refine match us0, hus0 with | [w0, w1, w2, w3], _ => ?_
 refine MeetsU.of_body (n := 4) rfl (fn := Try.f69) Try.func69 rfl rfl rfl rfl rfl rfl fun c hn hfx hfix => ?_
 have hfix : ∀ p, p ∈ [(0, w0), (1, w1), (2, w2), (3, w3)] → p ∈ c.fix := hfix
 have k0 : (0, w0) ∈ c.fix := hfix _ (.head _)
 have k1 : (1, w1) ∈ c.fix := hfix _ (.tail _ (.head _))
 have k2 : (2, w2) ∈ c.fix := hfix _ (.tail _ (.tail _ (.head _)))
 have k3 : (3, w3) ∈ c.fix := hfix _ (.tail _ (.tail _ (.tail _ (.head _))))
 unfold impl_searchHoms_with_listHoms_1 at h0
 refine AW.seq (AW.reg hn hfx rfl ?_)
 refine .cons rfl (r_box [] rfl rfl rfl) <| .cons rfl (r_box [] rfl rfl rfl) <| .cons rfl (r_copy (.inr rfl) rfl rfl) <| .nil ?_
 refine AW.sub [(0, _), (1, _), (2, _), (3, _), (4, _), (5, _), (900000, _)] ⟨rfl, rfl, rfl, rfl, rfl, rfl, rfl, trivial⟩ ?_
 refine AW.seq (AW.reg hn hfx rfl ?_)
 refine .cons rfl (r_load rfl rfl rfl rfl ok26 rfl) <| .cons rfl (r_load rfl rfl rfl rfl ok26 rfl) <| .cons rfl (r_copy (.inl rfl) rfl rfl) <| .cons rfl (r_copy (.inl rfl) rfl rfl) ?_
 refine RT.sub [(0, _), (1, _), (2, _), (3, _), (4, _), (12, _), (13, _), (14, _), (15, _), (900000, _)] ⟨rfl, rfl, rfl, rfl, rfl, rfl, rfl, rfl, rfl, rfl, trivial⟩ ?_
 refine .cons rfl (r_build [] rfl rfl rfl ok91 ⟨_, _, rfl⟩ rfl rfl (mc := 0)) <| .cons rfl (r_box [] rfl rfl rfl) <| .cons rfl (r_assign [] (.inl rfl) rfl rfl) <| .nil ?_
 refine AW.sub [(0, _), (1, _), (2, _), (3, _), (4, _), (9, _), (900000, _)] ⟨rfl, rfl, rfl, rfl, rfl, rfl, rfl, trivial⟩ ?_
 refine AW.seq (AW.reg hn hfx rfl ?_)
 refine .cons rfl (r_field rfl rfl rfl rfl ok26 rfl rfl) <| .cons rfl (r_load rfl rfl rfl rfl ok3 rfl) ?_
 obtain ⟨x1, hx1, h0⟩ := bindE h0
 refine .cons rfl (r_mkS rfl rfl rfl ok38 rfl hx1) <| .cons rfl (r_assign [] (.inl rfl) rfl rfl) <| .nil ?_
 refine AW.sub [(0, _), (1, _), (2, _), (3, _), (9, _), (10, _), (900000, _)] ⟨rfl, rfl, rfl, rfl, rfl, rfl, rfl, trivial⟩ ?_
 refine AW.seq ?_
 refine AW.seq (AW.reg hn hfx rfl ?_)
 refine .cons rfl (r_alias rfl rfl) <| .cons rfl (r_len_own rfl rfl rfl rfl ok38 rfl) <| .cons rfl (r_copy (.inl rfl) rfl rfl) <| .nil ?_
 refine AW.sub [(0, _), (1, _), (2, _), (3, _), (9, _), (10, _), (22, _), (23, _), (900000, _)] ⟨rfl, rfl, rfl, rfl, rfl, rfl, rfl, rfl, rfl, trivial⟩ ?_
 obtain ⟨z8, h1, h0⟩ := bindE h0
 refine AW.joinJ [(0, _), (1, _), (2, _), (3, _), (9, _), (900000, _)] ⟨rfl, rfl, rfl, rfl, rfl, rfl, trivial⟩ [(10, .val ty38 1 z8)] ?_ ?_
 ·refine AW.block ?_
  refine AW.loopP h1 [(0, _), (1, _), (2, _), (3, _), (9, _), (22, _), (900000, _)] ⟨rfl, rfl, rfl, rfl, rfl, rfl, rfl, trivial⟩ (fun s11 => [(10, .val ty38 1 s11.1), (23, .val tInt 0 s11.2)]) ⟨rfl, rfl, rfl, rfl, rfl, rfl, rfl, rfl, rfl, trivial⟩ fun s11 z13 h2 => ?_
  refine AW.seq (AW.reg hn hfx rfl ?_)
  refine .cons rfl (r_cmp rfl rfl rfl rfl rfl) <| .nil ?_
  refine AW.sub [(0, _), (1, _), (2, _), (3, _), (9, _), (10, _), (22, _), (23, _), (24, _), (900000, _)] ⟨rfl, rfl, rfl, rfl, rfl, rfl, rfl, rfl, rfl, rfl, trivial⟩ ?_
  refine AW.seq (AW.ifP rfl h2 (fun h2 => ?_) (fun h2 => ?_))
  ·refine AW.skip ?_
   refine AW.seq (AW.block ?_)
   refine AW.seq (AW.reg hn hfx rfl ?_)
   refine .cons rfl (r_copy (.inl rfl) rfl rfl) <| .cons rfl (r_copy (.inr rfl) rfl rfl) <| .nil ?_
   refine AW.sub [(0, _), (1, _), (2, _), (3, _), (9, _), (10, _), (11, _), (22, _), (23, _), (900000, _)] ⟨rfl, rfl, rfl, rfl, rfl, rfl, rfl, rfl, rfl, rfl, trivial⟩ ?_
   refine AW.reg hn hfx rfl ?_
   refine .cons rfl (r_alias rfl rfl) <| .cons rfl (r_copy (.inl rfl) rfl rfl) ?_
   obtain ⟨x12, hx12, h2⟩ := bindE h2
   refine .cons rfl (r_index_own rfl rfl rfl rfl rfl ok38 (idx_nn hx12) (idx_lt hx12)) <| .cons rfl (r_store [] rfl rfl rfl rfl rfl rfl rfl (sub_app rfl (sub_e (idx_get hx12))) ok3 rfl rfl rfl (repl_app rfl (repl_e (idx_get hx12)) rfl)) <| .nil ?_
   refine AW.sub [(0, _), (1, _), (2, _), (3, _), (9, _), (10, _), (22, _), (23, _), (900000, _)] ⟨rfl, rfl, rfl, rfl, rfl, rfl, rfl, rfl, rfl, trivial⟩ ?_
   refine AW.reg hn hfx rfl ?_
   refine .cons rfl (r_arith rfl rfl rfl rfl rfl) <| .cons rfl (r_copy (.inl rfl) rfl rfl) <| .nil ?_
   exact ⟨_, (Option.some.inj h2).symm, ⟨rfl, rfl, rfl, rfl, rfl, rfl, rfl, rfl, rfl, trivial⟩⟩
  ·refine AW.exit ?_
   refine ⟨_, (Option.some.inj h2).symm, fun hz => ?_⟩
   subst hz
   exact ⟨rfl, rfl, rfl, rfl, rfl, rfl, rfl, trivial⟩
 ·intro l1 hl1
  refine AW.weaken hl1.sub ?_
  refine AW.seq ?_
  refine AW.seq (AW.reg hn hfx rfl ?_)
  refine .cons rfl (r_alias rfl rfl) <| .cons rfl (r_alias rfl rfl) ?_
  obtain ⟨x15, hx15, h0⟩ := bindE h0
  refine .cons rfl (r_callM [found_c0] rfl rfl rfl Try.func90 rfl rfl (W90_74 (s_0_c0 := found_c0) hx15) (.lend rfl (.io rfl (.gio (r := 900000) rfl .nil))) rfl) <| .nil ?_
  refine AW.sub [(0, _), (1, _), (2, _), (3, _), (9, _), (10, _), (32, _), (900000, _)] ⟨rfl, rfl, rfl, rfl, rfl, rfl, rfl, rfl, trivial⟩ ?_
  obtain ⟨z18, h1, h0⟩ := bindE h0
  refine AW.joinJ [(0, _), (1, _), (2, _), (3, _)] ⟨rfl, rfl, rfl, rfl, trivial⟩ [(9, .val (.ptr ty91) 1 (a, (b, (embed, (z18.1, ((Value.func (Fn.func 74) #[] #[found_c0]), ())))))), (900000, .gh found_c0 (.ptr ty31) 3 z18.2)] ?_ ?_
  ·refine AW.ifP rfl h1 (fun h1 => ?_) (fun h1 => ?_)
   ·refine AW.reg hn hfx rfl ?_
    refine .cons rfl (r_alias rfl rfl) <| .cons rfl (r_alias rfl rfl) ?_
    refine RT.lower 10 0 rfl ?_
    obtain ⟨x19, hx19, h1⟩ := bindE h1
    refine .cons rfl (r_callM [found_c0] rfl rfl rfl Try.func91 rfl rfl (W91_74 30 (s_0_c0 := found_c0) hx19) (.io rfl (.lend rfl (.gio (r := 900000) rfl .nil))) rfl) <| .nil ?_
    obtain rfl := Option.some.inj h1
    exact ⟨rfl, rfl, rfl, rfl, rfl, rfl, trivial⟩
   ·refine AW.skip ?_
    obtain rfl := Option.some.inj h1
    exact ⟨rfl, rfl, rfl, rfl, rfl, rfl, trivial⟩
  ·intro l1 hl1
   refine AW.weaken hl1.sub ?_
   refine AW.seq (AW.reg hn hfx rfl ?_)
   refine .cons rfl (r_alias rfl rfl) <| .cons rfl (r_nil rfl rfl rfl) <| .cons rfl (r_field rfl rfl rfl rfl ok91 rfl rfl) <| .cons rfl (r_load rfl rfl rfl rfl ok3 rfl) ?_
   refine RT.sub [(0, _), (1, _), (2, _), (3, _), (39, _), (900000, _)] ⟨rfl, rfl, rfl, rfl, rfl, rfl, trivial⟩ ?_
   refine .cons rfl (r_cmp rfl rfl rfl rfl rfl) <| .cons rfl (r_copy (.inr rfl) rfl rfl) <| .nil ?_
   refine AW.sub [(0, _), (1, _), (2, _), (3, _), (8, _), (900000, _)] ⟨rfl, rfl, rfl, rfl, rfl, rfl, trivial⟩ ?_
   refine AW.ret ?_
   obtain rfl := Option.some.inj h0
   exact ⟨_, .tmp rfl rfl .nil, ⟨.inl ⟨rfl, rfl⟩, .inl ⟨rfl, rfl⟩, .inl ⟨rfl, rfl⟩, .inl ⟨rfl, rfl⟩, trivial⟩, ⟨rfl, trivial⟩⟩

theorem W46  {a : (Int × ((List (Int × ((List Int) × Unit))) × Unit))} {b : (Int × ((List (Int × ((List Int) × Unit))) × Unit))} {embed : Bool} {r : ((List (List Int)) × Bool)} (h0 : impl_listHoms a b embed = some r) : Meets Try.prog 46 [⟨ty26, 0, a⟩, ⟨ty26, 0, b⟩, ⟨.bool, 0, embed⟩] [⟨ty31, 2, r.1⟩, ⟨.bool, 0, r.2⟩] [⟨ty26, 0, a⟩, ⟨ty26, 0, b⟩, ⟨.bool, 0, embed⟩] := by
 refine Meets.of_body (fn := Try.f46) Try.func46 rfl rfl rfl fun c hn hfx => ?_
 unfold impl_listHoms at h0
 refine AW.seq (AW.reg hn hfx rfl ?_)
 refine .cons rfl (r_box [] rfl rfl rfl) <| .cons rfl (r_box [] rfl rfl rfl) <| .cons rfl (r_nilS (m := 2) (.inr rfl) ok31) <| .cons rfl (r_copy (.inr rfl) rfl rfl) <| .nil ?_
 refine AW.sub [(2, _), (3, _), (4, _)] ⟨rfl, rfl, rfl, trivial⟩ ?_
 refine AW.seq (AW.reg hn hfx rfl ?_)
 refine .cons rfl (r_buildSlice [] (e := ty38) (mc := 1) rfl rfl rfl ok31 rfl rfl rfl) <| .cons rfl (r_alloc rfl ok31 rfl) <| .cons rfl (r_store [] rfl rfl rfl rfl rfl rfl rfl rfl ok31 rfl rfl rfl rfl) <| .nil ?_
 refine AW.sub [(2, _), (3, _), (4, _), (8, _)] ⟨rfl, rfl, rfl, rfl, trivial⟩ ?_
 refine AW.know 8 hn hfx rfl fun u8_ c hn hfx k8 hm => ?_
 refine AW.seq (AW.reg hn hfx rfl ?_)
 refine .cons rfl (r_load rfl rfl rfl rfl ok26 rfl) <| .cons rfl (r_load rfl rfl rfl rfl ok26 rfl) <| .cons rfl (r_copy (.inl rfl) rfl rfl) <| .cons rfl (r_mkfun (vs := [u8_]) rfl ⟨k8, trivial⟩) ?_
 refine RT.sub [(8, _), (11, _), (12, _), (13, _), (14, _)] ⟨rfl, rfl, rfl, rfl, rfl, trivial⟩ ?_
 obtain ⟨x1, hx1, h0⟩ := bindE h0
 refine .cons rfl (r_callM [u8_] rfl rfl rfl Try.func69 rfl rfl (W69_74 (found_c0 := u8_) hx1) (.lend rfl (.lend rfl (.lend rfl (.lend rfl (.kio rfl k8 .nil))))) rfl) <| .cons rfl (r_copy (.inr rfl) rfl rfl) <| .nil ?_
 refine AW.sub [(8, _), (9, _)] ⟨rfl, rfl, trivial⟩ ?_
 refine AW.seq ?_
 obtain ⟨z3, h1, h0⟩ := bindE h0
 refine AW.seq (AW.joinJ [(8, _)] ⟨rfl, trivial⟩ [(22, .val .bool 0 z3)] ?_ ?_)
 ·refine AW.reg hn hfx rfl ?_
  refine .cons rfl (r_copy (.inl rfl) rfl rfl) <| .cons rfl (r_not rfl rfl rfl) ?_
  refine .ifP (.inl rfl) rfl rfl h1 (fun h1 => ?_) (fun h1 => ?_)
  ·refine .pass (.inl ⟨_, _, _, rfl, rfl, rfl⟩) ?_
   refine RT.sub [(8, _), (18, _), (19, _)] ⟨rfl, rfl, rfl, trivial⟩ ?_
   refine .pass (.inl ⟨_, _, _, rfl, rfl, rfl⟩) <| .pass (.inl ⟨_, _, _, rfl, rfl, rfl⟩) <| .cons rfl (r_pick_true rfl rfl rfl rfl) <| .nil ?_
   obtain rfl := Option.some.inj h1
   exact ⟨rfl, rfl, trivial⟩
  ·refine .cons (.inl ⟨_, _, _, rfl, rfl, rfl⟩) (r_load_ref rfl rfl rfl rfl ok31) ?_
   refine RT.sub [(8, _), (18, _), (19, _)] ⟨rfl, rfl, rfl, trivial⟩ ?_
   refine .cons (.inl ⟨_, _, _, rfl, rfl, rfl⟩) (r_len_own rfl rfl rfl rfl ok31 rfl) <| .cons (.inl ⟨_, _, _, rfl, rfl, rfl⟩) (r_cmp rfl rfl rfl rfl rfl) <| .cons rfl (r_pick_false rfl rfl rfl rfl) <| .nil ?_
   obtain rfl := Option.some.inj h1
   exact ⟨rfl, rfl, trivial⟩
 ·intro l1 hl1
  refine AW.weaken hl1.sub ?_
  refine AW.ifP rfl h0 (fun h0 => ?_) (fun h0 => ?_)
  ·refine AW.seq (AW.reg hn hfx rfl ?_)
   refine .cons rfl (r_buildSlice [] (e := ty38) (mc := 1) rfl rfl rfl ok31 rfl rfl rfl) <| .cons rfl (r_assign [] (.inl rfl) rfl rfl) <| .cons rfl (r_copy (.inr rfl) rfl rfl) <| .nil ?_
   refine AW.sub [(6, _), (7, _), (8, _)] ⟨rfl, rfl, rfl, trivial⟩ ?_
   refine AW.ret ?_
   obtain rfl := Option.some.inj h0
   exact ⟨_, .tmp rfl rfl (.tmp rfl rfl .nil), .inl ⟨rfl, rfl⟩, .inl ⟨rfl, rfl⟩, .inl ⟨rfl, rfl⟩, trivial⟩
  ·refine AW.skip ?_
   refine AW.seq (AW.reg hn hfx rfl ?_)
   refine .cons rfl (r_load_ref rfl rfl rfl rfl ok31) <| .cons rfl (r_assign [24] (.inl rfl) rfl rfl) <| .cons rfl (r_copy (.inr rfl) rfl rfl) <| .nil ?_
   refine AW.sub [(6, _), (7, _), (8, _)] ⟨rfl, rfl, rfl, trivial⟩ ?_
   refine AW.ret ?_
   obtain rfl := Option.some.inj h0
   exact ⟨_, .tmp rfl rfl (.tmp rfl rfl .nil), .inl ⟨rfl, rfl⟩, .inl ⟨rfl, rfl⟩, .inl ⟨rfl, rfl⟩, trivial⟩

theorem W15  {a : (Int × ((List (Int × ((List Int) × Unit))) × Unit))} {r : ((List (List Int)) × Bool)} (h0 : impl_Automorphisms a = some r) : Meets Try.prog 15 [⟨ty26, 0, a⟩] [⟨ty31, 2, r.1⟩, ⟨.bool, 0, r.2⟩] [⟨ty26, 0, a⟩] := by
 refine Meets.of_body (fn := Try.f15) Try.func15 rfl rfl rfl fun c hn hfx => ?_
 unfold impl_Automorphisms at h0
 refine AW.seq (AW.reg hn hfx rfl ?_)
 refine .cons rfl (r_box [] rfl rfl rfl) <| .cons rfl (r_nilS (m := 2) (.inr rfl) ok31) <| .cons rfl (r_copy (.inr rfl) rfl rfl) <| .nil ?_
 refine AW.sub [(1, _)] ⟨rfl, trivial⟩ ?_
 refine AW.seq ?_
 refine AW.seq (AW.reg hn hfx rfl ?_)
 refine .cons rfl (r_load rfl rfl rfl rfl ok26 rfl) ?_
 obtain ⟨x1, hx1, h0⟩ := bindE h0
 refine .cons rfl (r_call rfl rfl rfl Try.func35 rfl rfl (W35 hx1) rfl) <| .cons rfl (r_not rfl rfl rfl) <| .nil ?_
 refine AW.sub [(1, _), (6, _)] ⟨rfl, rfl, trivial⟩ ?_
 refine AW.ifP rfl h0 (fun h0 => ?_) (fun h0 => ?_)
 ·refine AW.seq (AW.reg hn hfx rfl ?_)
  refine .cons rfl (r_buildSlice [] (e := ty38) (mc := 1) rfl rfl rfl ok31 rfl rfl rfl) <| .cons rfl (r_assign [] (.inl rfl) rfl rfl) <| .cons rfl (r_copy (.inr rfl) rfl rfl) <| .nil ?_
  refine AW.sub [(2, _), (3, _)] ⟨rfl, rfl, trivial⟩ ?_
  refine AW.ret ?_
  obtain rfl := Option.some.inj h0
  exact ⟨_, .tmp rfl rfl (.tmp rfl rfl .nil), .inl ⟨rfl, rfl⟩, trivial⟩
 ·refine AW.skip ?_
  refine AW.seq (AW.reg hn hfx rfl ?_)
  refine .cons rfl (r_load rfl rfl rfl rfl ok26 rfl) <| .cons rfl (r_load rfl rfl rfl rfl ok26 rfl) ?_
  obtain ⟨x2, hx2, h0⟩ := bindE h0
  refine .cons rfl (r_call rfl rfl rfl Try.func46 rfl rfl (W46 hx2) rfl) <| .cons rfl (r_extract rfl rfl rfl) ?_
  refine RT.sub [(10, _), (11, _)] ⟨rfl, rfl, trivial⟩ ?_
  refine .cons rfl (r_extract_copy rfl rfl rfl rfl) <| .cons rfl (r_assign [] (.inl rfl) rfl rfl) <| .cons rfl (r_copy (.inr rfl) rfl rfl) <| .nil ?_
  refine AW.sub [(2, _), (3, _)] ⟨rfl, rfl, trivial⟩ ?_
  refine AW.ret ?_
  obtain rfl := Option.some.inj h0
  exact ⟨_, .tmp rfl rfl (.tmp rfl rfl .nil), .inl ⟨rfl, rfl⟩, trivial⟩

theorem W97  {f : (List Int)} {args : (List Int)} {r : (List Int)} (h0 : spec_l7Images f args = some r) : Meets Try.prog 97 [⟨ty38, 0, f⟩, ⟨ty38, 0, args⟩] [⟨ty38, 1, r⟩] [⟨ty38, 0, f⟩, ⟨ty38, 0, args⟩] := by
 refine Meets.of_body (fn := Try.f97) Try.func97 rfl rfl rfl fun c hn hfx => ?_
 unfold spec_l7Images at h0
 refine AW.seq (AW.reg hn hfx rfl ?_)
 refine .cons rfl (r_nilS (m := 1) (.inr rfl) ok38) <| .nil ?_
 refine AW.sub [(0, _), (1, _)] ⟨rfl, rfl, trivial⟩ ?_
 refine AW.seq (AW.reg hn hfx rfl ?_)
 refine .cons rfl (r_buildSlice [] (e := tInt) (mc := 0) rfl rfl rfl ok38 rfl rfl rfl) <| .cons rfl (r_assign [] (.inl rfl) rfl rfl) <| .nil ?_
 refine AW.sub [(0, _), (1, _), (5, _)] ⟨rfl, rfl, rfl, trivial⟩ ?_
 refine AW.seq ?_
 refine AW.seq (AW.reg hn hfx rfl ?_)
 refine .cons rfl (r_copy (.inr rfl) rfl rfl) <| .nil ?_
 refine AW.sub [(0, _), (1, _), (5, _), (6, _)] ⟨rfl, rfl, rfl, rfl, trivial⟩ ?_
 obtain ⟨z11, h1, h0⟩ := bindE h0
 refine AW.joinJ [] trivial [(5, .val ty38 1 z11)] ?_ ?_
 ·refine AW.block ?_
  refine AW.loopP h1 [(0, _), (1, _)] ⟨rfl, rfl, trivial⟩ (fun s16 => [(5, .val ty38 1 s16.1), (6, .val tInt 0 s16.2)]) ⟨rfl, rfl, rfl, rfl, trivial⟩ fun s16 z20 h2 => ?_
  refine AW.seq ?_
  refine AW.seq (AW.reg hn hfx rfl ?_)
  refine .cons rfl (r_copy (.inl rfl) rfl rfl) <| .cons rfl (r_copy (.inl rfl) rfl rfl) <| .cons rfl (r_len rfl rfl ok38 rfl) <| .cons rfl (r_cmp rfl rfl rfl rfl rfl) <| .nil ?_
  refine AW.sub [(0, _), (1, _), (5, _), (6, _), (11, _)] ⟨rfl, rfl, rfl, rfl, rfl, trivial⟩ ?_
  refine AW.ifP rfl h2 (fun h2 => ?_) (fun h2 => ?_)
  ·refine AW.skip ?_
   refine AW.seq (AW.block ?_)
   refine AW.reg hn hfx rfl ?_
   refine .cons rfl (r_alias rfl rfl) <| .cons rfl (r_copy (.inl rfl) rfl rfl) <| .cons rfl (r_copy (.inl rfl) rfl rfl) <| .cons rfl (r_copy (.inl rfl) rfl rfl) ?_
   refine RT.sub [(0, _), (1, _), (5, _), (6, _), (14, _), (15, _), (16, _), (17, _)] ⟨rfl, rfl, rfl, rfl, rfl, rfl, rfl, rfl, trivial⟩ ?_
   obtain ⟨x17, hx17, h2⟩ := bindE h2
   refine .cons rfl (r_index_shared rfl rfl rfl ok38 (idx_nn hx17) (idx_get hx17)) <| .cons rfl (r_load_shared rfl rfl ok3) ?_
   obtain ⟨x18, hx18, h2⟩ := bindE h2
   refine .cons rfl (r_index_shared rfl rfl rfl ok38 (idx_nn hx18) (idx_get hx18)) <| .cons rfl (r_load_shared rfl rfl ok3) ?_
   refine RT.sub [(0, _), (1, _), (5, _), (6, _), (14, _), (21, _)] ⟨rfl, rfl, rfl, rfl, rfl, rfl, trivial⟩ ?_
   refine .cons rfl (r_buildSlice [] (e := tInt) (mc := 0) rfl rfl rfl ok38 rfl rfl rfl) ?_
   obtain ⟨x19, hx19, h2⟩ := bindE h2
   refine .cons rfl (r_append [] rfl rfl rfl ok38 rfl (mr := 0) rfl rfl (app_len hx19) (app_eq hx19)) <| .cons rfl (r_assign [] (.inl rfl) rfl rfl) <| .nil ?_
   refine AW.sub [(0, _), (1, _), (5, _), (6, _)] ⟨rfl, rfl, rfl, rfl, trivial⟩ ?_
   refine AW.reg hn hfx rfl ?_
   refine .cons rfl (r_copy (.inl rfl) rfl rfl) <| .cons rfl (r_arith rfl rfl rfl rfl rfl) <| .cons rfl (r_copy (.inr rfl) rfl rfl) <| .nil ?_
   exact ⟨_, (Option.some.inj h2).symm, ⟨rfl, rfl, rfl, rfl, trivial⟩⟩
  ·refine AW.exit ?_
   refine ⟨_, (Option.some.inj h2).symm, fun hz => ?_⟩
   subst hz
   exact ⟨rfl, trivial⟩
 ·intro l1 hl1
  refine AW.weaken hl1.sub ?_
  refine AW.seq (AW.reg hn hfx rfl ?_)
  refine .cons rfl (r_alias rfl rfl) <| .cons rfl (r_assign [24] (.inl rfl) rfl rfl) <| .nil ?_
  refine AW.sub [(4, _)] ⟨rfl, trivial⟩ ?_
  refine AW.ret ?_
  obtain rfl := Option.some.inj h0
  exact ⟨_, .tmp rfl rfl .nil, .inl ⟨rfl, rfl⟩, .inl ⟨rfl, rfl⟩, trivial⟩

theorem W98  {a : (Int × ((List (Int × ((List Int) × Unit))) × Unit))} {op : Int} {args : (List Int)} {r : Int} (h0 : spec_l2Value a op args = some r) : Meets Try.prog 98 [⟨ty26, 0, a⟩, ⟨tInt, 0, op⟩, ⟨ty38, 0, args⟩] [⟨tInt, 0, r⟩] [⟨ty26, 0, a⟩, ⟨tInt, 0, op⟩, ⟨ty38, 0, args⟩] := by
 refine Meets.of_body (fn := Try.f98) Try.func98 rfl rfl rfl fun c hn hfx => ?_
 unfold spec_l2Value at h0
 refine AW.seq (AW.reg hn hfx rfl ?_)
 refine .cons rfl (r_box [] rfl rfl rfl) <| .cons rfl (r_copy (.inr rfl) rfl rfl) <| .nil ?_
 refine AW.sub [(1, _), (2, _), (3, _)] ⟨rfl, rfl, rfl, trivial⟩ ?_
 refine AW.seq (AW.reg hn hfx rfl ?_)
 refine .cons rfl (r_copy (.inr rfl) rfl rfl) <| .nil ?_
 refine AW.sub [(1, _), (2, _), (3, _), (7, _)] ⟨rfl, rfl, rfl, rfl, trivial⟩ ?_
 refine AW.seq ?_
 refine AW.seq (AW.reg hn hfx rfl ?_)
 refine .cons rfl (r_copy (.inr rfl) rfl rfl) <| .nil ?_
 refine AW.sub [(1, _), (2, _), (3, _), (7, _), (8, _)] ⟨rfl, rfl, rfl, rfl, rfl, trivial⟩ ?_
 obtain ⟨z7, h1, h0⟩ := bindE h0
 refine AW.joinJ [(1, _), (3, _)] ⟨rfl, rfl, trivial⟩ [(7, .val tInt 0 z7)] ?_ ?_
 ·refine AW.block ?_
  refine AW.loopP h1 [(1, _), (2, _), (3, _)] ⟨rfl, rfl, rfl, trivial⟩ (fun s10 => [(7, .val tInt 0 s10.1), (8, .val tInt 0 s10.2)]) ⟨rfl, rfl, rfl, rfl, rfl, trivial⟩ fun s10 z12 h2 => ?_
  refine AW.seq ?_
  refine AW.seq (AW.reg hn hfx rfl ?_)
  refine .cons rfl (r_copy (.inl rfl) rfl rfl) <| .cons rfl (r_copy (.inl rfl) rfl rfl) <| .cons rfl (r_len rfl rfl ok38 rfl) <| .cons rfl (r_cmp rfl rfl rfl rfl rfl) <| .nil ?_
  refine AW.sub [(1, _), (2, _), (3, _), (7, _), (8, _), (12, _)] ⟨rfl, rfl, rfl, rfl, rfl, rfl, trivial⟩ ?_
  refine AW.ifP rfl h2 (fun h2 => ?_) (fun h2 => ?_)
  ·refine AW.skip ?_
   refine AW.seq (AW.block ?_)
   refine AW.draw hmix hn hfx rfl rfl ?_
   refine .cons rfl (r_copy (.inl rfl) rfl rfl) rfl rfl rfl <| .cons rfl (r_field rfl rfl rfl rfl ok26 rfl rfl) rfl rfl rfl <| .cons rfl (r_load rfl rfl rfl rfl ok3 rfl) rfl rfl rfl <| .cons rfl (r_arith rfl rfl rfl rfl rfl) rfl rfl rfl ?_
   refine DT.eq [(18, _), (17, _), (16, _), (15, _), (1, _), (2, _), (3, _), (7, _), (8, _), (12, _)] rfl ?_
   refine .cons rfl (r_copy (.inl rfl) rfl rfl) rfl rfl rfl <| .cons rfl (r_copy (.inl rfl) rfl rfl) rfl rfl rfl ?_
   obtain ⟨x11, hx11, h2⟩ := bindE h2
   refine .cons rfl (r_index_shared rfl rfl rfl ok38 (idx_nn hx11) (idx_get hx11)) rfl rfl rfl <| .cons rfl (r_load_shared rfl rfl ok3) rfl rfl rfl ?_
   refine DT.eq [(22, _), (21, _), (20, _), (19, _), (18, _), (17, _), (16, _), (15, _), (1, _), (2, _), (3, _), (7, _), (8, _), (12, _)] rfl ?_
   refine .cons rfl (r_arith rfl rfl rfl rfl rfl) rfl rfl rfl <| .cons rfl (r_copy (.inr rfl) rfl rfl) rfl rfl rfl <| .nil rfl ?_
   refine AW.sub [(1, _), (2, _), (3, _), (7, _), (8, _)] ⟨rfl, rfl, rfl, rfl, rfl, trivial⟩ ?_
   refine AW.reg hn hfx rfl ?_
   refine .cons rfl (r_copy (.inl rfl) rfl rfl) <| .cons rfl (r_arith rfl rfl rfl rfl rfl) <| .cons rfl (r_copy (.inr rfl) rfl rfl) <| .nil ?_
   exact ⟨_, (Option.some.inj h2).symm, ⟨rfl, rfl, rfl, rfl, rfl, trivial⟩⟩
  ·refine AW.exit ?_
   refine ⟨_, (Option.some.inj h2).symm, fun hz => ?_⟩
   subst hz
   exact ⟨rfl, rfl, rfl, trivial⟩
 ·intro l1 hl1
  refine AW.weaken hl1.sub ?_
  refine AW.seq (AW.reg hn hfx rfl ?_)
  refine .cons rfl (r_field rfl rfl rfl rfl ok26 rfl rfl) <| .cons rfl (r_load rfl rfl rfl rfl ok24 rfl) <| .cons rfl (r_copy (.inl rfl) rfl rfl) ?_
  obtain ⟨x14, hx14, h0⟩ := bindE h0
  refine .cons rfl (r_index_shared rfl rfl rfl ok24 (idx_nn hx14) (idx_get hx14)) ?_
  refine RT.sub [(7, _), (27, _)] ⟨rfl, rfl, trivial⟩ ?_
  refine .cons rfl (r_field_shared rfl rfl ok72 rfl rfl rfl) <| .cons rfl (r_load_shared rfl rfl ok38) <| .cons rfl (r_copy (.inl rfl) rfl rfl) ?_
  obtain ⟨x15, hx15, h0⟩ := bindE h0
  refine .cons rfl (r_index_shared rfl rfl rfl ok38 (idx_nn hx15) (idx_get hx15)) ?_
  refine RT.sub [(31, _)] ⟨rfl, trivial⟩ ?_
  refine .cons rfl (r_load_shared rfl rfl ok3) <| .cons rfl (r_copy (.inr rfl) rfl rfl) <| .nil ?_
  refine AW.sub [(6, _)] ⟨rfl, trivial⟩ ?_
  refine AW.ret ?_
  obtain rfl := Option.some.inj h0
  exact ⟨_, .tmp rfl rfl .nil, .inl ⟨rfl, rfl⟩, .inl ⟨rfl, rfl⟩, .inl ⟨rfl, rfl⟩, trivial⟩

theorem W92  {a : (Int × ((List (Int × ((List Int) × Unit))) × Unit))} {b : (Int × ((List (Int × ((List Int) × Unit))) × Unit))} {f : (List Int)} {r : ((List Int) × Bool)} (h0 : spec_l7Close a b f = some r) : Meets Try.prog 92 [⟨ty26, 0, a⟩, ⟨ty26, 0, b⟩, ⟨ty38, 0, f⟩] [⟨ty38, 1, r.1⟩, ⟨.bool, 0, r.2⟩] [⟨ty26, 0, a⟩, ⟨ty26, 0, b⟩, ⟨ty38, 0, f⟩] := by
 refine Meets.of_body (fn := Try.f92) Try.func92 rfl rfl rfl fun c hn hfx => ?_
 unfold spec_l7Close at h0
 refine AW.seq (AW.reg hn hfx rfl ?_)
 refine .cons rfl (r_box [] rfl rfl rfl) <| .cons rfl (r_box [] rfl rfl rfl) <| .cons rfl (r_nilS (m := 1) (.inr rfl) ok38) <| .cons rfl (r_copy (.inr rfl) rfl rfl) <| .nil ?_
 refine AW.sub [(2, _), (3, _), (4, _)] ⟨rfl, rfl, rfl, trivial⟩ ?_
 refine AW.seq (AW.reg hn hfx rfl ?_)
 refine .cons rfl (r_copy (.inl rfl) rfl rfl) ?_
 obtain ⟨x1, hx1, h0⟩ := bindE h0
 refine .cons rfl (r_call rfl rfl rfl Try.func72 rfl rfl (W72 hx1) rfl) <| .cons rfl (r_assign [] (.inl rfl) rfl rfl) <| .nil ?_
 refine AW.sub [(3, _), (4, _), (8, _)] ⟨rfl, rfl, rfl, trivial⟩ ?_
 refine AW.seq ?_
 refine AW.seq (AW.reg hn hfx rfl ?_)
 refine .cons rfl (r_copy (.inr rfl) rfl rfl) <| .nil ?_
 refine AW.sub [(3, _), (4, _), (8, _), (9, _)] ⟨rfl, rfl, rfl, rfl, trivial⟩ ?_
 obtain ⟨z1248, h1, h0⟩ := bindE h0
 refine AW.joinX z1248 [] trivial (fun s1247 => [(8, .val ty38 1 s1247)]) ?_ ?_
 ·refine AW.block ?_
  refine AW.loopP h1 [(3, _), (4, _)] ⟨rfl, rfl, trivial⟩ (fun s1871 => [(8, .val ty38 1 s1871.1), (9, .val .bool 0 s1871.2)]) ⟨rfl, rfl, rfl, rfl, trivial⟩ fun s1871 z2493 h2 => ?_
  refine AW.seq ?_
  refine AW.seq (AW.reg hn hfx rfl ?_)
  refine .cons rfl (r_copy (.inl rfl) rfl rfl) <| .nil ?_
  refine AW.sub [(3, _), (4, _), (8, _), (17, _)] ⟨rfl, rfl, rfl, rfl, trivial⟩ ?_
  refine AW.ifP rfl h2 (fun h2 => ?_) (fun h2 => ?_)
  ·refine AW.skip ?_
   refine AW.block ?_
   refine AW.seq (AW.reg hn hfx rfl ?_)
   refine .cons rfl (r_copy (.inr rfl) rfl rfl) <| .nil ?_
   refine AW.sub [(3, _), (4, _), (8, _), (9, _)] ⟨rfl, rfl, rfl, rfl, trivial⟩ ?_
   refine AW.seq (AW.reg hn hfx rfl ?_)
   refine .cons rfl (r_copy (.inr rfl) rfl rfl) <| .nil ?_
   refine AW.sub [(3, _), (4, _), (8, _), (9, _), (10, _)] ⟨rfl, rfl, rfl, rfl, rfl, trivial⟩ ?_
   obtain ⟨z2182, h3, h2⟩ := bindE h2
   refine AW.joinX z2182 [(3, _), (4, _)] ⟨rfl, rfl, trivial⟩ (fun s2181 => [(8, .val ty38 1 s2181.1), (9, .val .bool 0 s2181.2)]) ?_ ?_
   ·refine AW.block ?_
    refine AW.loopP h3 [(3, _), (4, _)] ⟨rfl, rfl, trivial⟩ (fun s2337 => [(8, .val ty38 1 s2337.1), (9, .val .bool 0 s2337.2.1), (10, .val tInt 0 s2337.2.2)]) ⟨rfl, rfl, rfl, rfl, rfl, trivial⟩ fun s2337 z2491 h4 => ?_
    refine AW.seq ?_
    refine AW.seq (AW.reg hn hfx rfl ?_)
    refine .cons rfl (r_copy (.inl rfl) rfl rfl) <| .cons rfl (r_field rfl rfl rfl rfl ok26 rfl rfl) <| .cons rfl (r_load rfl rfl rfl rfl ok24 rfl) <| .cons rfl (r_len rfl rfl ok24 rfl) ?_
    refine RT.sub [(3, _), (4, _), (8, _), (9, _), (10, _), (18, _), (21, _)] ⟨rfl, rfl, rfl, rfl, rfl, rfl, rfl, trivial⟩ ?_
    refine .cons rfl (r_cmp rfl rfl rfl rfl rfl) <| .nil ?_
    refine AW.sub [(3, _), (4, _), (8, _), (9, _), (10, _), (22, _)] ⟨rfl, rfl, rfl, rfl, rfl, rfl, trivial⟩ ?_
    refine AW.ifP rfl h4 (fun h4 => ?_) (fun h4 => ?_)
    ·refine AW.skip ?_
     refine AW.seq (AW.block ?_)
     refine AW.seq (AW.reg hn hfx rfl ?_)
     refine .cons rfl (r_copy (.inr rfl) rfl rfl) <| .nil ?_
     refine AW.sub [(3, _), (4, _), (8, _), (9, _), (10, _), (11, _)] ⟨rfl, rfl, rfl, rfl, rfl, rfl, trivial⟩ ?_
     obtain ⟨z2414, h5, h4⟩ := bindE h4
     refine AW.joinX z2414 [(3, _), (4, _), (10, _)] ⟨rfl, rfl, rfl, trivial⟩ (fun s2413 => [(8, .val ty38 1 s2413.1), (9, .val .bool 0 s2413.2)]) ?_ ?_
     ·refine AW.block ?_
      refine AW.loopP h5 [(3, _), (4, _), (10, _)] ⟨rfl, rfl, rfl, trivial⟩ (fun s2452 => [(8, .val ty38 1 s2452.1), (9, .val .bool 0 s2452.2.1), (11, .val tInt 0 s2452.2.2)]) ⟨rfl, rfl, rfl, rfl, rfl, rfl, trivial⟩ fun s2452 z2489 h6 => ?_
      refine AW.seq ?_
      refine AW.seq (AW.reg hn hfx rfl ?_)
      refine .cons rfl (r_copy (.inl rfl) rfl rfl) <| .cons rfl (r_field rfl rfl rfl rfl ok26 rfl rfl) <| .cons rfl (r_load rfl rfl rfl rfl ok24 rfl) <| .cons rfl (r_copy (.inl rfl) rfl rfl) ?_
      refine RT.sub [(3, _), (4, _), (8, _), (9, _), (10, _), (11, _), (25, _), (27, _), (28, _)] ⟨rfl, rfl, rfl, rfl, rfl, rfl, rfl, rfl, rfl, trivial⟩ ?_
      obtain ⟨x2453, hx2453, h6⟩ := bindE h6
      refine .cons rfl (r_index_shared rfl rfl rfl ok24 (idx_nn hx2453) (idx_get hx2453)) <| .cons rfl (r_field_shared rfl rfl ok72 rfl rfl rfl) <| .cons rfl (r_load_shared rfl rfl ok38) <| .cons rfl (r_len rfl rfl ok38 rfl) ?_
      refine RT.sub [(3, _), (4, _), (8, _), (9, _), (10, _), (11, _), (25, _), (32, _)] ⟨rfl, rfl, rfl, rfl, rfl, rfl, rfl, rfl, trivial⟩ ?_
      refine .cons rfl (r_cmp rfl rfl rfl rfl rfl) <| .nil ?_
      refine AW.sub [(3, _), (4, _), (8, _), (9, _), (10, _), (11, _), (33, _)] ⟨rfl, rfl, rfl, rfl, rfl, rfl, rfl, trivial⟩ ?_
      refine AW.ifP rfl h6 (fun h6 => ?_) (fun h6 => ?_)
      ·refine AW.skip ?_
       refine AW.sub [(3, _), (4, _), (8, _), (9, _), (10, _), (11, _)] ⟨rfl, rfl, rfl, rfl, rfl, rfl, trivial⟩ ?_
       obtain ⟨z2471, h7, h6⟩ := bindE h6
       refine AW.seq (AW.joinX z2471 [(3, _), (4, _), (10, _), (11, _)] ⟨rfl, rfl, rfl, rfl, trivial⟩ (fun s2470 => [(8, .val ty38 1 s2470.1), (9, .val .bool 0 s2470.2)]) ?_ ?_)
       ·refine AW.block ?_
        refine AW.seq (AW.draw hmix hn hfx rfl rfl ?_)
        refine .cons rfl (r_aliasF rfl) rfl rfl rfl <| .cons rfl (r_field rfl rfl rfl rfl ok26 rfl rfl) rfl rfl rfl <| .cons rfl (r_load rfl rfl rfl rfl ok3 rfl) rfl rfl rfl <| .cons rfl (r_field rfl rfl rfl rfl ok26 rfl rfl) rfl rfl rfl ?_
        refine DT.eq [(39, _), (38, _), (37, _), (36, _), (3, _), (4, _), (8, _), (9, _), (10, _), (11, _)] rfl ?_
        refine .cons rfl (r_load rfl rfl rfl rfl ok24 rfl) rfl rfl rfl <| .cons rfl (r_copy (.inl rfl) rfl rfl) rfl rfl rfl ?_
        obtain ⟨x2472, hx2472, h7⟩ := bindE h7
        refine .cons rfl (r_index_shared rfl rfl rfl ok24 (idx_nn hx2472) (idx_get hx2472)) rfl rfl rfl <| .cons rfl (r_field_shared rfl rfl ok72 rfl rfl rfl) rfl rfl rfl ?_
        refine DT.eq [(43, _), (42, _), (41, _), (40, _), (39, _), (38, _), (37, _), (36, _), (3, _), (4, _), (8, _), (9, _), (10, _), (11, _)] rfl ?_
        refine .cons rfl (r_load_shared rfl rfl ok3) rfl rfl rfl <| .cons rfl (r_copy (.inl rfl) rfl rfl) rfl rfl rfl ?_
        obtain ⟨x2473, hx2473, h7⟩ := bindE h7
        refine .cons rfl (r_call rfl rfl rfl Try.func58 rfl rfl (W58 hx2473) rfl) rfl rfl rfl ?_
        obtain ⟨x2474, hx2474, h7⟩ := bindE h7
        refine .cons rfl (r_call rfl rfl rfl Try.func97 rfl rfl (W97 hx2474) rfl) rfl rfl rfl ?_
        refine DT.eq [(47, _), (46, _), (45, _), (44, _), (43, _), (42, _), (41, _), (40, _), (39, _), (38, _), (37, _), (36, _), (3, _), (4, _), (8, _), (9, _), (10, _), (11, _)] rfl ?_
        refine .cons rfl (r_assign [] (.inl rfl) rfl rfl) rfl rfl rfl <| .nil rfl ?_
        refine AW.sub [(3, _), (4, _), (8, _), (9, _), (10, _), (11, _), (12, _)] ⟨rfl, rfl, rfl, rfl, rfl, rfl, rfl, trivial⟩ ?_
        refine AW.seq ?_
        refine AW.seq (AW.reg hn hfx rfl ?_)
        refine .cons rfl (r_alias rfl rfl) ?_
        obtain ⟨x2475, hx2475, h7⟩ := bindE h7
        refine .cons rfl (r_call rfl rfl rfl Try.func73 rfl rfl (W73 hx2475) rfl) <| .nil ?_
        refine AW.sub [(3, _), (4, _), (8, _), (9, _), (10, _), (11, _), (12, _), (49, _)] ⟨rfl, rfl, rfl, rfl, rfl, rfl, rfl, rfl, trivial⟩ ?_
        refine AW.ifP rfl h7 (fun h7 => ?_) (fun h7 => ?_)
        ·refine AW.exit ?_
         obtain rfl := Option.some.inj h7
         exact ⟨_, rfl, ⟨rfl, rfl, rfl, rfl, rfl, rfl, trivial⟩⟩
        ·refine AW.skip ?_
         refine AW.seq (AW.draw hmix hn hfx rfl rfl ?_)
         refine .cons rfl (r_field rfl rfl rfl rfl ok26 rfl rfl) rfl rfl rfl <| .cons rfl (r_load rfl rfl rfl rfl ok24 rfl) rfl rfl rfl <| .cons rfl (r_copy (.inl rfl) rfl rfl) rfl rfl rfl ?_
         obtain ⟨x2476, hx2476, h7⟩ := bindE h7
         refine .cons rfl (r_index_shared rfl rfl rfl ok24 (idx_nn hx2476) (idx_get hx2476)) rfl rfl rfl ?_
         refine DT.eq [(53, _), (52, _), (51, _), (50, _), (3, _), (4, _), (8, _), (9, _), (10, _), (11, _), (12, _), (49, _)] rfl ?_
         refine .cons rfl (r_field_shared rfl rfl ok72 rfl rfl rfl) rfl rfl rfl <| .cons rfl (r_load_shared rfl rfl ok38) rfl rfl rfl <| .cons rfl (r_copy (.inl rfl) rfl rfl) rfl rfl rfl ?_
         obtain ⟨x2477, hx2477, h7⟩ := bindE h7
         refine .cons rfl (r_index_shared rfl rfl rfl ok38 (idx_nn hx2477) (idx_get hx2477)) rfl rfl rfl ?_
         refine DT.eq [(57, _), (56, _), (55, _), (54, _), (53, _), (52, _), (51, _), (50, _), (3, _), (4, _), (8, _), (9, _), (10, _), (11, _), (12, _), (49, _)] rfl ?_
         refine .cons rfl (r_load_shared rfl rfl ok3) rfl rfl rfl <| .cons rfl (r_load rfl rfl rfl rfl ok26 rfl) rfl rfl rfl <| .cons rfl (r_copy (.inl rfl) rfl rfl) rfl rfl rfl <| .cons rfl (r_aliasF rfl) rfl rfl rfl ?_
         refine DT.eq [(61, _), (60, _), (59, _), (58, _), (57, _), (56, _), (55, _), (54, _), (53, _), (52, _), (51, _), (50, _), (3, _), (4, _), (8, _), (9, _), (10, _), (11, _), (12, _), (49, _)] rfl ?_
         obtain ⟨x2478, hx2478, h7⟩ := bindE h7
         refine .cons rfl (r_call rfl rfl rfl Try.func98 rfl rfl (W98 hx2478) rfl) rfl rfl rfl <| .cons rfl (r_copy (.inr rfl) rfl rfl) rfl rfl rfl <| .cons rfl (r_copy (.inr rfl) rfl rfl) rfl rfl rfl <| .nil rfl ?_
         refine AW.sub [(3, _), (4, _), (8, _), (9, _), (10, _), (11, _), (13, _), (14, _)] ⟨rfl, rfl, rfl, rfl, rfl, rfl, rfl, rfl, trivial⟩ ?_
         refine AW.seq ?_
         obtain ⟨z2482, h8, h7⟩ := bindE h7
         refine AW.seq (AW.joinJ [(3, _), (4, _), (8, _), (9, _), (10, _), (11, _), (13, _), (14, _)] ⟨rfl, rfl, rfl, rfl, rfl, rfl, rfl, rfl, trivial⟩ [(75, .val .bool 0 z2482)] ?_ ?_)
         ·refine AW.reg hn hfx rfl ?_
          refine .cons rfl (r_alias rfl rfl) <| .cons rfl (r_copy (.inl rfl) rfl rfl) ?_
          obtain ⟨x2483, hx2483, h8⟩ := bindE h8
          refine .cons rfl (r_index_own rfl rfl rfl rfl rfl ok38 (idx_nn hx2483) (idx_lt hx2483)) <| .cons rfl (r_load rfl rfl rfl (sub_app rfl (sub_e (idx_get hx2483))) ok3 rfl) ?_
          refine RT.sub [(3, _), (4, _), (8, _), (9, _), (10, _), (11, _), (13, _), (14, _), (66, _)] ⟨rfl, rfl, rfl, rfl, rfl, rfl, rfl, rfl, rfl, trivial⟩ ?_
          refine .cons rfl (r_cmp rfl rfl rfl rfl rfl) ?_
          refine .ifP (.inl rfl) rfl rfl h8 (fun h8 => ?_) (fun h8 => ?_)
          ·refine .cons (.inl ⟨_, _, _, rfl, rfl, rfl⟩) (r_alias rfl rfl) <| .cons (.inl ⟨_, _, _, rfl, rfl, rfl⟩) (r_copy (.inl rfl) rfl rfl) ?_
           refine RT.sub [(3, _), (4, _), (8, _), (9, _), (10, _), (11, _), (13, _), (14, _), (68, _), (69, _), (70, _)] ⟨rfl, rfl, rfl, rfl, rfl, rfl, rfl, rfl, rfl, rfl, rfl, trivial⟩ ?_
           obtain ⟨x2484, hx2484, h8⟩ := bindE h8
           refine .cons (.inl ⟨_, _, _, rfl, rfl, rfl⟩) (r_index_own rfl rfl rfl rfl rfl ok38 (idx_nn hx2484) (idx_lt hx2484)) <| .cons (.inl ⟨_, _, _, rfl, rfl, rfl⟩) (r_load rfl rfl rfl (sub_app rfl (sub_e (idx_get hx2484))) ok3 rfl) <| .cons (.inl ⟨_, _, _, rfl, rfl, rfl⟩) (r_copy (.inl rfl) rfl rfl) <| .cons (.inl ⟨_, _, _, rfl, rfl, rfl⟩) (r_cmp rfl rfl rfl rfl rfl) ?_
           refine RT.sub [(3, _), (4, _), (8, _), (9, _), (10, _), (11, _), (13, _), (14, _), (68, _), (74, _)] ⟨rfl, rfl, rfl, rfl, rfl, rfl, rfl, rfl, rfl, rfl, trivial⟩ ?_
           refine .cons rfl (r_pick_true rfl rfl rfl rfl) <| .nil ?_
           obtain rfl := Option.some.inj h8
           exact ⟨rfl, rfl, rfl, rfl, rfl, rfl, rfl, rfl, rfl, trivial⟩
          ·refine .pass (.inl ⟨_, _, _, rfl, rfl, rfl⟩) <| .pass (.inl ⟨_, _, _, rfl, rfl, rfl⟩) ?_
           refine RT.sub [(3, _), (4, _), (8, _), (9, _), (10, _), (11, _), (13, _), (14, _), (68, _), (69, _), (70, _)] ⟨rfl, rfl, rfl, rfl, rfl, rfl, rfl, rfl, rfl, rfl, rfl, trivial⟩ ?_
           refine .pass (.inl ⟨_, _, _, rfl, rfl, rfl⟩) <| .pass (.inl ⟨_, _, _, rfl, rfl, rfl⟩) <| .pass (.inl ⟨_, _, _, rfl, rfl, rfl⟩) <| .pass (.inl ⟨_, _, _, rfl, rfl, rfl⟩) ?_
           refine RT.sub [(3, _), (4, _), (8, _), (9, _), (10, _), (11, _), (13, _), (14, _), (68, _), (74, _)] ⟨rfl, rfl, rfl, rfl, rfl, rfl, rfl, rfl, rfl, rfl, trivial⟩ ?_
           refine .cons rfl (r_pick_false rfl rfl rfl rfl) <| .nil ?_
           obtain rfl := Option.some.inj h8
           exact ⟨rfl, rfl, rfl, rfl, rfl, rfl, rfl, rfl, rfl, trivial⟩
         ·intro l1 hl1
          refine AW.weaken hl1.sub ?_
          refine AW.ifP rfl h7 (fun h7 => ?_) (fun h7 => ?_)
          ·refine AW.seq (AW.reg hn hfx rfl ?_)
           refine .cons rfl (r_buildSlice [] (e := tInt) (mc := 0) rfl rfl rfl ok38 rfl rfl rfl) <| .cons rfl (r_assign [] (.inl rfl) rfl rfl) <| .cons rfl (r_copy (.inr rfl) rfl rfl) <| .nil ?_
           refine AW.sub [(6, _), (7, _)] ⟨rfl, rfl, trivial⟩ ?_
           refine AW.ret ?_
           obtain rfl := Option.some.inj h7
           refine ⟨_, (Option.some.inj h6).symm, fun hz => ?_⟩
           subst hz
           refine ⟨_, (Option.some.inj h4).symm, fun hz => ?_⟩
           subst hz
           refine ⟨_, (Option.some.inj h2).symm, fun hz => ?_⟩
           subst hz
           obtain rfl := Option.some.inj h0
           exact ⟨_, .tmp rfl rfl (.tmp rfl rfl .nil), .inl ⟨rfl, rfl⟩, .inl ⟨rfl, rfl⟩, .inl ⟨rfl, rfl⟩, trivial⟩
          ·refine AW.skip ?_
           refine AW.seq (AW.reg hn hfx rfl ?_)
           refine .cons rfl (r_alias rfl rfl) <| .cons rfl (r_copy (.inl rfl) rfl rfl) ?_
           obtain ⟨x2486, hx2486, h7⟩ := bindE h7
           refine .cons rfl (r_index_own rfl rfl rfl rfl rfl ok38 (idx_nn hx2486) (idx_lt hx2486)) <| .cons rfl (r_load rfl rfl rfl (sub_app rfl (sub_e (idx_get hx2486))) ok3 rfl) ?_
           refine RT.sub [(3, _), (4, _), (8, _), (9, _), (10, _), (11, _), (13, _), (14, _), (80, _)] ⟨rfl, rfl, rfl, rfl, rfl, rfl, rfl, rfl, rfl, trivial⟩ ?_
           refine .cons rfl (r_cmp rfl rfl rfl rfl rfl) <| .nil ?_
           refine AW.sub [(3, _), (4, _), (8, _), (9, _), (10, _), (11, _), (13, _), (14, _), (81, _)] ⟨rfl, rfl, rfl, rfl, rfl, rfl, rfl, rfl, rfl, trivial⟩ ?_
           refine AW.ifP rfl h7 (fun h7 => ?_) (fun h7 => ?_)
           ·refine AW.seq (AW.reg hn hfx rfl ?_)
            refine .cons rfl (r_alias rfl rfl) <| .cons rfl (r_copy (.inl rfl) rfl rfl) <| .cons rfl (r_copy (.inl rfl) rfl rfl) ?_
            obtain ⟨x2487, hx2487, h7⟩ := bindE h7
            refine .cons rfl (r_index_own rfl rfl rfl rfl rfl ok38 (idx_nn hx2487) (idx_lt hx2487)) ?_
            refine RT.sub [(3, _), (4, _), (8, _), (10, _), (11, _), (84, _), (85, _)] ⟨rfl, rfl, rfl, rfl, rfl, rfl, rfl, trivial⟩ ?_
            refine .cons rfl (r_store [] rfl rfl rfl rfl rfl rfl rfl (sub_app rfl (sub_e (idx_get hx2487))) ok3 rfl rfl rfl (repl_app rfl (repl_e (idx_get hx2487)) rfl)) <| .nil ?_
            refine AW.sub [(3, _), (4, _), (8, _), (10, _), (11, _)] ⟨rfl, rfl, rfl, rfl, rfl, trivial⟩ ?_
            refine AW.reg hn hfx rfl ?_
            refine .cons rfl (r_copy (.inr rfl) rfl rfl) <| .nil ?_
            obtain rfl := Option.some.inj h7
            exact ⟨_, rfl, ⟨rfl, rfl, rfl, rfl, rfl, rfl, trivial⟩⟩
           ·refine AW.skip ?_
            obtain rfl := Option.some.inj h7
            exact ⟨_, rfl, ⟨rfl, rfl, rfl, rfl, rfl, rfl, trivial⟩⟩
       ·rintro s2470 rfl l1 hl1
        refine AW.weaken hl1.sub ?_
        refine AW.reg hn hfx rfl ?_
        refine .cons rfl (r_copy (.inl rfl) rfl rfl) <| .cons rfl (r_arith rfl rfl rfl rfl rfl) <| .cons rfl (r_copy (.inr rfl) rfl rfl) <| .nil ?_
        exact ⟨_, (Option.some.inj h6).symm, ⟨rfl, rfl, rfl, rfl, rfl, rfl, trivial⟩⟩
      ·refine AW.exit ?_
       refine ⟨_, (Option.some.inj h6).symm, fun hz => ?_⟩
       subst hz
       exact ⟨_, rfl, ⟨rfl, rfl, rfl, rfl, rfl, trivial⟩⟩
     ·rintro s2413 rfl l1 hl1
      refine AW.weaken hl1.sub ?_
      refine AW.reg hn hfx rfl ?_
      refine .cons rfl (r_copy (.inl rfl) rfl rfl) <| .cons rfl (r_arith rfl rfl rfl rfl rfl) <| .cons rfl (r_copy (.inr rfl) rfl rfl) <| .nil ?_
      exact ⟨_, (Option.some.inj h4).symm, ⟨rfl, rfl, rfl, rfl, rfl, trivial⟩⟩
    ·refine AW.exit ?_
     refine ⟨_, (Option.some.inj h4).symm, fun hz => ?_⟩
     subst hz
     exact ⟨_, rfl, ⟨rfl, rfl, rfl, rfl, trivial⟩⟩
   ·rintro s2181 rfl l1 hl1
    exact ⟨_, (Option.some.inj h2).symm, Sub.via hl1 ⟨rfl, rfl, rfl, rfl, trivial⟩⟩
  ·refine AW.exit ?_
   refine ⟨_, (Option.some.inj h2).symm, fun hz => ?_⟩
   subst hz
   exact ⟨_, rfl, ⟨rfl, trivial⟩⟩
 ·rintro s1247 rfl l1 hl1
  refine AW.weaken hl1.sub ?_
  refine AW.seq (AW.reg hn hfx rfl ?_)
  refine .cons rfl (r_alias rfl rfl) <| .cons rfl (r_assign [86] (.inl rfl) rfl rfl) <| .cons rfl (r_copy (.inr rfl) rfl rfl) <| .nil ?_
  refine AW.sub [(6, _), (7, _)] ⟨rfl, rfl, trivial⟩ ?_
  refine AW.ret ?_
  obtain rfl := Option.some.inj h0
  exact ⟨_, .tmp rfl rfl (.tmp rfl rfl .nil), .inl ⟨rfl, rfl⟩, .inl ⟨rfl, rfl⟩, .inl ⟨rfl, rfl⟩, trivial⟩

theorem W93  {f : (List Int)} {r : Bool} (h0 : spec_l7Into f = some r) : Meets Try.prog 93 [⟨ty38, 0, f⟩] [⟨.bool, 0, r⟩] [⟨ty38, 0, f⟩] := by
 refine Meets.of_body (fn := Try.f93) Try.func93 rfl rfl rfl fun c hn hfx => ?_
 unfold spec_l7Into at h0
 refine AW.seq (AW.reg hn hfx rfl ?_)
 refine .cons rfl (r_copy (.inr rfl) rfl rfl) <| .nil ?_
 refine AW.sub [(0, _)] ⟨rfl, trivial⟩ ?_
 refine AW.seq ?_
 refine AW.seq (AW.reg hn hfx rfl ?_)
 refine .cons rfl (r_copy (.inr rfl) rfl rfl) <| .nil ?_
 refine AW.sub [(0, _), (3, _)] ⟨rfl, rfl, trivial⟩ ?_
 obtain ⟨z27, h1, h0⟩ := bindE h0
 refine AW.joinX z27 [] trivial (fun s26 => []) ?_ ?_
 ·refine AW.block ?_
  refine AW.loopP h1 [(0, _)] ⟨rfl, trivial⟩ (fun s40 => [(3, .val tInt 0 s40)]) ⟨rfl, rfl, trivial⟩ fun s40 z52 h2 => ?_
  refine AW.seq ?_
  refine AW.seq (AW.reg hn hfx rfl ?_)
  refine .cons rfl (r_copy (.inl rfl) rfl rfl) <| .cons rfl (r_copy (.inl rfl) rfl rfl) <| .cons rfl (r_len rfl rfl ok38 rfl) <| .cons rfl (r_cmp rfl rfl rfl rfl rfl) <| .nil ?_
  refine AW.sub [(0, _), (3, _), (7, _)] ⟨rfl, rfl, rfl, trivial⟩ ?_
  refine AW.ifP rfl h2 (fun h2 => ?_) (fun h2 => ?_)
  ·refine AW.skip ?_
   refine AW.seq (AW.block ?_)
   refine AW.sub [(0, _), (3, _)] ⟨rfl, rfl, trivial⟩ ?_
   obtain ⟨z46, h3, h2⟩ := bindE h2
   refine AW.seq (AW.joinJ [(0, _), (3, _)] ⟨rfl, rfl, trivial⟩ [(24, .val .bool 0 z46)] ?_ ?_)
   ·refine AW.draw hmix hn hfx rfl rfl ?_
    refine .cons rfl (r_copy (.inl rfl) rfl rfl) rfl rfl rfl <| .cons rfl (r_copy (.inl rfl) rfl rfl) rfl rfl rfl ?_
    obtain ⟨x47, hx47, h3⟩ := bindE h3
    refine .cons rfl (r_index_shared rfl rfl rfl ok38 (idx_nn hx47) (idx_get hx47)) rfl rfl rfl <| .cons rfl (r_load_shared rfl rfl ok3) rfl rfl rfl ?_
    refine DT.eq [(13, _), (12, _), (11, _), (10, _), (0, _), (3, _)] rfl ?_
    refine .cons rfl (r_cmp rfl rfl rfl rfl rfl) rfl rfl rfl ?_
    refine .ifP (.inl rfl) rfl rfl (fun _ => rfl) rfl h3 (fun h3 => ?_) (fun h3 => ?_)
    ·refine .cons (.inl ⟨_, _, _, rfl, rfl, rfl⟩) (r_copy (.inl rfl) rfl rfl) rfl rfl rfl <| .cons (.inl ⟨_, _, _, rfl, rfl, rfl⟩) (r_copy (.inl rfl) rfl rfl) rfl rfl rfl ?_
     refine DT.eq [(17, _), (16, _), (15, _), (14, _), (13, _), (12, _), (11, _), (10, _), (0, _), (3, _)] rfl ?_
     obtain ⟨x48, hx48, h3⟩ := bindE h3
     refine .cons (.inl ⟨_, _, _, rfl, rfl, rfl⟩) (r_cutL rfl rfl rfl ok38 hx48) rfl rfl rfl <| .cons (.inl ⟨_, _, _, rfl, rfl, rfl⟩) (r_copy (.inl rfl) rfl rfl) rfl rfl rfl <| .cons (.inl ⟨_, _, _, rfl, rfl, rfl⟩) (r_copy (.inl rfl) rfl rfl) rfl rfl rfl ?_
     obtain ⟨x49, hx49, h3⟩ := bindE h3
     refine .cons (.inl ⟨_, _, _, rfl, rfl, rfl⟩) (r_index_shared rfl rfl rfl ok38 (idx_nn hx49) (idx_get hx49)) rfl rfl rfl ?_
     refine DT.eq [(21, _), (20, _), (19, _), (18, _), (17, _), (16, _), (15, _), (14, _), (13, _), (12, _), (11, _), (10, _), (0, _), (3, _)] rfl ?_
     refine .cons (.inl ⟨_, _, _, rfl, rfl, rfl⟩) (r_load_shared rfl rfl ok3) rfl rfl rfl ?_
     obtain ⟨x50, hx50, h3⟩ := bindE h3
     refine .cons (.inl ⟨_, _, _, rfl, rfl, rfl⟩) (r_call rfl rfl rfl Try.func73 rfl rfl (W73 hx50) rfl) rfl rfl rfl <| .cons rfl (r_pick_true rfl rfl rfl rfl) rfl rfl rfl <| .nil rfl ?_
     obtain rfl := Option.some.inj h3
     exact ⟨rfl, rfl, rfl, trivial⟩
    ·refine .pass (.inl ⟨_, _, _, rfl, rfl, rfl⟩) rfl rfl <| .pass (.inl ⟨_, _, _, rfl, rfl, rfl⟩) rfl rfl ?_
     refine DT.eq [(17, _), (16, _), (15, _), (14, _), (13, _), (12, _), (11, _), (10, _), (0, _), (3, _)] rfl ?_
     refine .pass (.inl ⟨_, _, _, rfl, rfl, rfl⟩) rfl rfl <| .pass (.inl ⟨_, _, _, rfl, rfl, rfl⟩) rfl rfl <| .pass (.inl ⟨_, _, _, rfl, rfl, rfl⟩) rfl rfl <| .pass (.inl ⟨_, _, _, rfl, rfl, rfl⟩) rfl rfl ?_
     refine DT.eq [(21, _), (20, _), (19, _), (18, _), (17, _), (16, _), (15, _), (14, _), (13, _), (12, _), (11, _), (10, _), (0, _), (3, _)] rfl ?_
     refine .pass (.inl ⟨_, _, _, rfl, rfl, rfl⟩) rfl rfl <| .pass (.inl ⟨_, _, _, rfl, rfl, rfl⟩) rfl rfl <| .cons rfl (r_pick_false rfl rfl rfl rfl) rfl rfl rfl <| .nil rfl ?_
     obtain rfl := Option.some.inj h3
     exact ⟨rfl, rfl, rfl, trivial⟩
   ·intro l1 hl1
    refine AW.weaken hl1.sub ?_
    refine AW.ifP rfl h2 (fun h2 => ?_) (fun h2 => ?_)
    ·refine AW.seq (AW.reg hn hfx rfl ?_)
     refine .cons rfl (r_copy (.inr rfl) rfl rfl) <| .nil ?_
     refine AW.sub [(2, _)] ⟨rfl, trivial⟩ ?_
     refine AW.ret ?_
     refine ⟨_, (Option.some.inj h2).symm, fun hz => ?_⟩
     subst hz
     obtain rfl := Option.some.inj h0
     exact ⟨_, .tmp rfl rfl .nil, .inl ⟨rfl, rfl⟩, trivial⟩
    ·refine AW.skip ?_
     refine AW.reg hn hfx rfl ?_
     refine .cons rfl (r_copy (.inl rfl) rfl rfl) <| .cons rfl (r_arith rfl rfl rfl rfl rfl) <| .cons rfl (r_copy (.inr rfl) rfl rfl) <| .nil ?_
     exact ⟨_, (Option.some.inj h2).symm, ⟨rfl, rfl, trivial⟩⟩
  ·refine AW.exit ?_
   refine ⟨_, (Option.some.inj h2).symm, fun hz => ?_⟩
   subst hz
   exact ⟨_, rfl, trivial⟩
 ·rintro s26 rfl l1 hl1
  refine AW.weaken hl1.sub ?_
  refine AW.seq (AW.reg hn hfx rfl ?_)
  refine .cons rfl (r_copy (.inr rfl) rfl rfl) <| .nil ?_
  refine AW.sub [(2, _)] ⟨rfl, trivial⟩ ?_
  refine AW.ret ?_
  obtain rfl := Option.some.inj h0
  exact ⟨_, .tmp rfl rfl .nil, .inl ⟨rfl, rfl⟩, trivial⟩

theorem W99  {n : Int} {f : (List Int)} {r : Bool} (h0 : spec_l7Onto n f = some r) : Meets Try.prog 99 [⟨tInt, 0, n⟩, ⟨ty38, 0, f⟩] [⟨.bool, 0, r⟩] [⟨tInt, 0, n⟩, ⟨ty38, 0, f⟩] := by
 refine Meets.of_body (fn := Try.f99) Try.func99 rfl rfl rfl fun c hn hfx => ?_
 unfold spec_l7Onto at h0
 refine AW.seq (AW.reg hn hfx rfl ?_)
 refine .cons rfl (r_copy (.inr rfl) rfl rfl) <| .nil ?_
 refine AW.sub [(0, _), (1, _)] ⟨rfl, rfl, trivial⟩ ?_
 refine AW.seq ?_
 refine AW.seq (AW.reg hn hfx rfl ?_)
 refine .cons rfl (r_copy (.inr rfl) rfl rfl) <| .nil ?_
 refine AW.sub [(0, _), (1, _), (5, _)] ⟨rfl, rfl, rfl, trivial⟩ ?_
 obtain ⟨z7, h1, h0⟩ := bindE h0
 refine AW.joinX z7 [] trivial (fun s6 => []) ?_ ?_
 ·refine AW.block ?_
  refine AW.loopP h1 [(0, _), (1, _)] ⟨rfl, rfl, trivial⟩ (fun s10 => [(5, .val tInt 0 s10)]) ⟨rfl, rfl, rfl, trivial⟩ fun s10 z12 h2 => ?_
  refine AW.seq ?_
  refine AW.seq (AW.reg hn hfx rfl ?_)
  refine .cons rfl (r_copy (.inl rfl) rfl rfl) <| .cons rfl (r_copy (.inl rfl) rfl rfl) <| .cons rfl (r_cmp rfl rfl rfl rfl rfl) <| .nil ?_
  refine AW.sub [(0, _), (1, _), (5, _), (8, _)] ⟨rfl, rfl, rfl, rfl, trivial⟩ ?_
  refine AW.ifP rfl h2 (fun h2 => ?_) (fun h2 => ?_)
  ·refine AW.skip ?_
   refine AW.seq (AW.block ?_)
   refine AW.seq (AW.reg hn hfx rfl ?_)
   refine .cons rfl (r_copy (.inl rfl) rfl rfl) <| .cons rfl (r_copy (.inl rfl) rfl rfl) ?_
   obtain ⟨x11, hx11, h2⟩ := bindE h2
   refine .cons rfl (r_call rfl rfl rfl Try.func73 rfl rfl (W73 hx11) rfl) <| .cons rfl (r_not rfl rfl rfl) <| .nil ?_
   refine AW.sub [(0, _), (1, _), (5, _), (14, _)] ⟨rfl, rfl, rfl, rfl, trivial⟩ ?_
   refine AW.ifP rfl h2 (fun h2 => ?_) (fun h2 => ?_)
   ·refine AW.seq (AW.reg hn hfx rfl ?_)
    refine .cons rfl (r_copy (.inr rfl) rfl rfl) <| .nil ?_
    refine AW.sub [(4, _)] ⟨rfl, trivial⟩ ?_
    refine AW.ret ?_
    refine ⟨_, (Option.some.inj h2).symm, fun hz => ?_⟩
    subst hz
    obtain rfl := Option.some.inj h0
    exact ⟨_, .tmp rfl rfl .nil, .inl ⟨rfl, rfl⟩, .inl ⟨rfl, rfl⟩, trivial⟩
   ·refine AW.skip ?_
    refine AW.reg hn hfx rfl ?_
    refine .cons rfl (r_copy (.inl rfl) rfl rfl) <| .cons rfl (r_arith rfl rfl rfl rfl rfl) <| .cons rfl (r_copy (.inr rfl) rfl rfl) <| .nil ?_
    exact ⟨_, (Option.some.inj h2).symm, ⟨rfl, rfl, rfl, trivial⟩⟩
  ·refine AW.exit ?_
   refine ⟨_, (Option.some.inj h2).symm, fun hz => ?_⟩
   subst hz
   exact ⟨_, rfl, trivial⟩
 ·rintro s6 rfl l1 hl1
  refine AW.weaken hl1.sub ?_
  refine AW.seq (AW.reg hn hfx rfl ?_)
  refine .cons rfl (r_copy (.inr rfl) rfl rfl) <| .nil ?_
  refine AW.sub [(4, _)] ⟨rfl, trivial⟩ ?_
  refine AW.ret ?_
  obtain rfl := Option.some.inj h0
  exact ⟨_, .tmp rfl rfl .nil, .inl ⟨rfl, rfl⟩, .inl ⟨rfl, rfl⟩, trivial⟩

end Go.Proofs.Ytoaajjhcdbbfdaa
