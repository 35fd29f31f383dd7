
/- The statement Rows.JsonWritesUptoCardSaid: the walk of JsonWrites, joined to its row. -/
import Derived.Test.YtlhhiiemojhjdaaDoorRows
import Derived.Test.YtlhhiiemojhjdaaDoorCards
import Derived.Test.YtlhhiiemojhjdaaDoorTie
import Derived.Test.YtlhhiiemojhjdaaDoorMs18
import Derived.ProofKit
import Derived.SevenTiedAt
import Derived.Deep.DeepHandedRow
import Derived.Lay
import Derived.JoinedCond
import Derived.OpenShut
import Derived.SizedLaws
import Derived.Carry
import Derived.SliceStrings
import Derived.ChangeMaps5
set_option linter.unusedVariables false
namespace Go.Proofs.YtlhhiiemojhjdaaDoor.jsonWrites
open Go Go.ChangeShapes Go.WideShapes Go.ChangeAt Go.RowKit
open Go.ChangeMaps (open_string shut_string)

theorem own : ownKnob Tryd.prog.godebug = none := by kernel_rfl
theorem laidOut : laidOutB Tryd.prog = true := by kernel_rfl
theorem trodAll_below {H : Type} {enc : TypeId × Value → H} {W W' : World} (hb : Below W.heap.size W W') : ∀ {ts : List TypeId} {vs : List Value} {ds : List (DataW H)} {ps : List MemPlace},
    (∀ t ∈ ts, Tryd.prog.readableRec t = true ∧ t < Tryd.prog.types.size) → DataW.TrodAll enc Tryd.prog W 0 (fun _ => true) true ts vs ds ps → (∀ x ∈ ps, x.block < W.heap.size) →
    DataW.TrodAll enc Tryd.prog W' 0 (fun b => decide (b < W.heap.size)) true ts vs ds ps
  | [], [], [], _, _, h, _ => h
  | t :: ts, v :: vs, d :: ds, ps, ht, h, hlt => by
    obtain ⟨p, q, h1, h2, e⟩ := h
    refine ⟨p, q, Below.trod laidOut (ht t (by simp)).1 (ht t (by simp)).2 h1 hb (fun x hx => hlt x (by rw [e]; exact List.mem_append_left _ hx)), trodAll_below hb (fun t' ht' => ht t' (by simp [ht'])) h2 (fun x hx => hlt x (by rw [e]; exact List.mem_append_right _ hx)), e⟩
  | [], _ :: _, _, _, _, h, _ => by cases h
  | [], [], _ :: _, _, _, h, _ => by cases h
  | _ :: _, [], _, _, _, h, _ => by cases h
  | _ :: _, _ :: _, [], _, _, h, _ => by cases h
theorem types_ok : ∀ t ∈ Tryd.f11.params.toList, Tryd.prog.readableRec t = true ∧ t < Tryd.prog.types.size := by
  intro t ht
  have h1 : (Tryd.f11.params.toList.all fun t => Tryd.prog.readableRec t && decide (t < Tryd.prog.types.size)) = true := by kernel_rfl
  have h2 := List.all_eq_true.1 h1 t ht
  simpa using h2

theorem weigh_each {H : Type} {ts : List TypeId} {ds : List (DataW H)} (h : (DataW.weightsEach Tryd.prog ts ds).all (· ≤ reachBytes) = true) {j : Nat} {t : TypeId} {d : DataW H} (ht : ts[j]? = some t) (hd : ds[j]? = some d) : ∀ x ∈ d.weights Tryd.prog t, x ≤ reachBytes := fun x hx => by
  have := List.all_eq_true.1 h x (DataW.weights_mem_each ht hd x hx)
  simpa using this
theorem laid_met (os : Os) (args : Array Value) : laidMet Tryd.prog laidJ ((World.laidAll Tryd.prog os laidJ).forCall (fun _ _ => 0) ⟨#[], args, []⟩).memory := laidMet_laidAll _ (by kernel_rfl) (by kernel_rfl)
theorem witness_row (os : Os) {H : Type} (enc : TypeId × Value → H) :
    (Rows.OpenSpec.upto Rows.jsonWritesSpec).preRow enc Tryd.prog Tryd.f11 Rows.jsonWritesUptoRow.domain false laidJ ((World.laidAll Tryd.prog os laidJ).forCall (fun _ _ => 0) ⟨#[], #[.agg #[.int .i64 0, .string ⟨#[]⟩, .slice none 0 0, .slice none 0 0], .agg #[.int .i64 0, .string ⟨#[]⟩, .slice none 0 0, .slice none 0 0], .string ⟨#[]⟩], []⟩).memory #[.agg #[.int .i64 0, .string ⟨#[]⟩, .slice none 0 0, .slice none 0 0], .agg #[.int .i64 0, .string ⟨#[]⟩, .slice none 0 0, .slice none 0 0], .string ⟨#[]⟩] := by
  have hw : (DataW.whole enc Tryd.prog ((World.laidAll Tryd.prog os laidJ).forCall (fun _ _ => 0) ⟨#[], #[.agg #[.int .i64 0, .string ⟨#[]⟩, .slice none 0 0, .slice none 0 0], .agg #[.int .i64 0, .string ⟨#[]⟩, .slice none 0 0, .slice none 0 0], .string ⟨#[]⟩], []⟩).memory Tryd.f11.params.toList (Rows.OpenSpec.upto Rows.jsonWritesSpec).vars false #[Value.agg #[.int .i64 0, .string ⟨#[]⟩, .slice none 0 0, .slice none 0 0], .agg #[.int .i64 0, .string ⟨#[]⟩, .slice none 0 0, .slice none 0 0], .string ⟨#[]⟩].toList 8).map (fun x => (x.1, x.2.1)) =
      some ([.agg [.lit (.int .i64 0), .lit (.string []), .nil, .nil], .agg [.lit (.int .i64 0), .lit (.string []), .nil, .nil], .lit (.string [])], []) := by kernel_rfl
  obtain ⟨⟨x1, x2, x3⟩, hx, hx1⟩ := Option.map_eq_some_iff.1 hw
  simp only [Prod.mk.injEq] at hx1
  obtain ⟨rfl, rfl⟩ := hx1
  exact OpenSpec.preRow_of_cond 8 hx (by kernel_rfl) (fun k hk => by cases hk; rfl) (by kernel_rfl) (laid_met os _)
theorem okArgs (os : Os) : Input.okWideB Tryd.prog ((World.laidAll Tryd.prog os laidJ).forCall (fun _ _ => 0) ⟨#[], #[.agg #[.int .i64 0, .string ⟨#[]⟩, .slice none 0 0, .slice none 0 0], .agg #[.int .i64 0, .string ⟨#[]⟩, .slice none 0 0, .slice none 0 0], .string ⟨#[]⟩], []⟩) 11 ⟨#[], #[.agg #[.int .i64 0, .string ⟨#[]⟩, .slice none 0 0, .slice none 0 0], .agg #[.int .i64 0, .string ⟨#[]⟩, .slice none 0 0, .slice none 0 0], .string ⟨#[]⟩], []⟩ = true := by kernel_rfl
set_option maxRecDepth 100000 in
theorem lifted (os : Os) (started : os.Started) (H : Type) (enc : TypeId × Value → H) (F : Stop.Interp) :
    ReturnsInHanded {} Tryd.checked os 11 .any ((Rows.OpenSpec.upto Rows.jsonWritesSpec).preRow enc Tryd.prog Tryd.f11 Rows.jsonWritesUptoRow.domain false laidJ) (((Rows.OpenSpec.upto Rows.jsonWritesSpec).at F).post enc Tryd.prog Tryd.f11 false true false false) := by
  refine returnsInHanded_of_row (C := Tryd.checked) (s := Rows.OpenSpec.upto Rows.jsonWritesSpec) own started (by kernel_rfl) Tryd.func11
    ⟨World.laidAll Tryd.prog os laidJ, fun _ _ => 0, ⟨#[], #[.agg #[.int .i64 0, .string ⟨#[]⟩, .slice none 0 0, .slice none 0 0], .agg #[.int .i64 0, .string ⟨#[]⟩, .slice none 0 0, .slice none 0 0], .string ⟨#[]⟩], []⟩, World.laidAll_os _ _ _, World.shaped_of_ZipB (by kernel_rfl) (by kernel_rfl), (Input.okWide_of_okWideB (base := 0) (okArgs os)).1, (Input.okWide_of_okWideB (okArgs os)).2, witness_row os enc, by
      simp only [Assume.holds]
      exact ⟨by simp, by simp, fun _ => Modest.zero, by simp, by simp⟩⟩ ?_
  intro W base args ds gs before hval0 hW _ hcond0 hsz0 hL hsh _
  have hk : Rows.uptoSmall H (ds ++ gs) = true := hcond0 _ rfl
  have htab := ut_of_laid hL hsh
  have hval : ∀ (j : Nat) t v, Tryd.f11.params[j]? = some t → args[j]? = some v → Value.okWide Tryd.prog W .any base t v := hval0
  have hW' := hW
  have hltW := hW.lt
  obtain ⟨p, q, hA0, hV, rfl, hfz, hnd⟩ := hW
  have hA : DataW.TrodAll enc Tryd.prog W 0 (fun _ => true) true Tryd.f11.params.toList args.toList ds p := hA0
  obtain ⟨pz, hAk, hpz⟩ : ∃ pz, DataW.TrodAll enc Tryd.prog W 0 (fun _ => true) true Tryd.f11.params.toList args.toList ds pz ∧ ∀ x ∈ pz, x.block < W.heap.size := ⟨p, hA, fun x hx => hltW x (List.mem_append_left _ hx)⟩
  have hsz : (DataW.weightsEach Tryd.prog (Tryd.f11.params.toList ++ []) (ds ++ gs)).all (· ≤ reachBytes) = true := hsz0
  rw [Tryd.params11] at hA hval hsz
  obtain ⟨v0, vs0, d0, ds0, p0, q0, hargs, rfl, rfl, h0, r0⟩ := trodAll_cons hA
  obtain ⟨v1, vs1, d1, ds1, p1, q1, rfl, rfl, rfl, h1, r1⟩ := trodAll_cons r0
  obtain ⟨v2, vs2, d2, ds2, p2, q2, rfl, rfl, rfl, h2, r2⟩ := trodAll_cons r1
  obtain ⟨rfl, rfl, rfl⟩ := trodAll_nil r2
  obtain rfl : args = #[v0, v1, v2] := by cases args; simp_all
  obtain ⟨rfl, rfl⟩ := trodVars_none hV
  have hB0 : Rows.uptoBulk d0 ≤ 1048576 := by
    have h2 := of_decide_eq_true hk
    exact Nat.le_trans (bulkAll (by simp)) h2
  have hB1 : Rows.uptoBulk d1 ≤ 1048576 := by
    have h2 := of_decide_eq_true hk
    exact Nat.le_trans (bulkAll (by simp)) h2
  have hB2 : Rows.uptoBulk d2 ≤ 1048576 := by
    have h2 := of_decide_eq_true hk
    exact Nat.le_trans (bulkAll (by simp)) h2
  obtain ⟨j0, vn0, vk0, rfl, hj0, hb0, hc0, hl0⟩ := json_open2 (hval 0 40 v0 rfl rfl) h0 hB0
  obtain ⟨j1, vn1, vk1, rfl, hj1, hb1⟩ := json_open (hval 1 40 v1 rfl rfl) h1 hB1
  obtain ⟨s2, rfl, rfl, rfl, hs2⟩ := open_string Tryd.underlying9 (hval 2 9 v2 rfl rfl) h2
  obtain ⟨⟨l2⟩⟩ := s2
  have hb2 : l2.length ≤ 1048576 := by
    have e : Rows.uptoBulk (DataW.lit (H := H) (.string l2)) = l2.length + 1 := by simp [Rows.uptoBulk]
    rw [e] at hB2
    omega
  simp only [List.append_nil] at hW'
  refine (JsonWrites_any j0 j1 l2 W vn0 vk0 vn1 vk1 hj0 hj1 htab (bigJ_mono (by decide) _ hb0) (Nat.le_trans hc0 (by decide)) (lenJ_mono (by decide) _ hl0) (bigJ_mono (by decide) _ hb1)).mono fun e W' ⟨he, hq⟩ => ?_
  subst he
  have hb : Below W.heap.size W W' := hq
  refine ⟨_, rfl, _, _, _, [], pz, [], hW', trodAll_mk1 (shut_bool Tryd.underlying4 _), ?_, rfl, hb.frame _, fun h => by cases h⟩
  exact trodAll_below hb types_ok hAk hpz
theorem over : Rows.jsonWritesUptoRow.holds Tryd.pinned (Rows.OpenSpec.upto Rows.jsonWritesSpec) :=
  OpenClaim.holds_of_cond 11 Tryd.f11 rfl rfl rfl rfl rfl rfl rfl ⟨rfl, rfl, rfl, rfl, rfl⟩ rfl rfl rfl rfl rfl (by kernel_rfl) Tryd.func11 (by kernel_rfl)
    (of_decide_eq_true (by kernel_rfl)) (by unfold Func.isWrapper; first | (rw [if_pos (by decide +kernel)]; kernel_rfl) | (rw [if_neg (by decide +kernel)]; exact ⟨rfl, rfl⟩))
    (fun os started H enc _ F => by rw [OpenClaim.pre_eq_preRow]; exact lifted os started H enc F)
theorem asked : ∀ t ∈ Tryd.f11.params.toList, Tryd.prog.wantsStandIn t = false := by
  intro t ht
  have h1 : (Tryd.f11.params.toList.all fun t => !Tryd.prog.wantsStandIn t) = true := by kernel_rfl
  simpa using List.all_eq_true.1 h1 t ht
theorem proved : Rows.JsonWritesUptoCardSaid :=
  Claim7.holds_tied_plain_at .later [] [.data, .pinned] true (true, "8920fdf888fa1ac2ddb0e50d92e02fe085c83f0e09a3030db9b6bc8366f20244") true
    over (fun _ h => by cases h) (by kernel_rfl) (fun _ h => by cases h) jsonWritesUpto_row_tie rfl ⟨rfl, rfl⟩ (by kernel_rfl) rfl
    (fun f fn hf hfn => by
      obtain rfl : f = 11 := Option.some.inj ((show Tryd.prog.funcNamed "storehouse/storehouselaw14.JsonWrites" = some 11 by kernel_rfl).symm.trans hf) |>.symm
      obtain rfl : fn = Tryd.f11 := (Option.some.inj (Tryd.func11.symm.trans hfn)).symm
      exact ⟨by kernel_rfl, fun j t ht => asked t (by
        have h2 : Tryd.f11.params.toList[j]? = some t := by rw [Array.getElem?_toList]; exact ht
        exact List.mem_of_getElem? h2)⟩)
    (by kernel_rfl)
end Go.Proofs.YtlhhiiemojhjdaaDoor.jsonWrites
