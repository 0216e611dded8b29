/-
  TopLeases: at every draw and every type the call returns true, and all memory that was is as it was.
  No condition: the statement is the seat's 'Rows.TopLeasesSaid' as it is given.
  How: an executor over symbols, shown sound against the model (the texts Abs to Sf); its run, in known stretches, reckoned by the kernel (K0 to K12, Kz).
-/
import Derived.Test.YtogifafehihjgaaGreatRows
import Derived.WalkKit
import Derived.ProofKit
import Derived.OpenShut
import Derived.Test.YtogifafehihjgaaGreatSf
import Derived.Test.YtogifafehihjgaaGreatXa
import Derived.Test.YtogifafehihjgaaGreatKz
import Derived.Test.YtogifafehihjgaaGreatK0
import Derived.Test.YtogifafehihjgaaGreatK1
import Derived.Test.YtogifafehihjgaaGreatK2
import Derived.Test.YtogifafehihjgaaGreatK3
import Derived.Test.YtogifafehihjgaaGreatK4
import Derived.Test.YtogifafehihjgaaGreatK5
import Derived.Test.YtogifafehihjgaaGreatK6
import Derived.Test.YtogifafehihjgaaGreatK7
import Derived.Test.YtogifafehihjgaaGreatK8
import Derived.Test.YtogifafehihjgaaGreatK9
import Derived.Test.YtogifafehihjgaaGreatK10
import Derived.Test.YtogifafehihjgaaGreatK11
import Derived.Test.YtogifafehihjgaaGreatK12
namespace Go.Proofs.YtogifafehihjgaaGreat.topLeases
open Go.ChangeShapes Go.WideShapes Go.ChangeAt Go.RowKit
set_option linter.unusedVariables false      -- a walk need not use every 'w<i>' (that an integer argument fits its kind)

theorem own : ownKnob Tryz.prog.godebug = none := by kernel_rfl

/-! ### the walk -/
open Ab in
theorem chk_app {call : FuncId → FF} : ∀ {l m : List Ent}, chkL call l = true → (∀ e ∈ m, chkE call e = true) → ∀ e ∈ l ++ m, chkE call e = true := fun hl hm e he => by
  rcases List.mem_append.1 he with h | h
  · exact chkL_mem hl e h
  · exact hm e h

open Ab in
theorem tab_ok : ∀ e ∈ tab, chkE (evFn Tryz.prog S1 60) e = true := by
  rw [tab_segs]
  repeat rw [List.append_assoc]
  exact (chk_app seg0_ok <| (chk_app seg1_ok <| (chk_app seg2_ok <| (chk_app seg3_ok <| (chk_app seg4_ok <| (chk_app seg5_ok <| (chk_app seg6_ok <| (chk_app seg7_ok <| (chk_app seg8_ok <| (chk_app seg9_ok <| (chk_app seg10_ok <| (chk_app seg11_ok <| (chkL_mem seg12_ok)))))))))))))

open Ab in
theorem walk (a0 : Int) (a1 : Int) (w0 : (Lit.int .u64 a0).wf = true) (w1 : (Lit.int .u8 a1).wf = true) (w : World) :
    Calls Tryz.prog 3 #[.int .u64 a0, .int .u8 a1] w fun e w' => e = .returned (.bool true) ∧ w.keptBut w' (fun _ => False) := by
  obtain ⟨t, rfl, ht⟩ : ∃ t : Nat, a1 = .ofNat t ∧ t < 256 := by
    simp only [Lit.wf, Bool.and_eq_true, decide_eq_true_eq] at w1
    have h0 : (0 : Int) ≤ a1 := by simpa [IntKind.min, IntKind.signed, IntKind.bits] using w1.1
    have h1 : a1 ≤ 255 := by simpa [IntKind.max, IntKind.signed, IntKind.bits] using w1.2
    have h2 : a1 = Int.ofNat a1.toNat := (Int.toNat_of_nonneg h0).symm
    exact ⟨a1.toNat, h2, by omega⟩
  obtain ⟨r, hr, hv⟩ : ∃ r, (evFn Tryz.prog S2 60 3).f [.sym 7 0, .sym 4 1] h0 = some r ∧ r.v = .bool true := by
    have h := top_runs
    unfold isT at h
    obtain ⟨r, hr, h⟩ := oe_true h
    refine ⟨r, hr, ?_⟩
    split at h
    · rename_i b hb; rw [hb, h]
    · cases h
  have s0 : VR (rho a0 t) (fun _ => none) (.sym 7 0) (.int .u64 a0) := is_sym (i := 0) rfl
  have s1 : VR (rho a0 t) (fun _ => none) (.sym 4 1) (.int .u8 (.ofNat t)) := is_sym (i := 1) rfl
  have hno : ∀ k b, h0.blk k = some b → False := fun k b hb => by rw [blk_h0] at hb; cases hb
  have hs2 : CallOk Tryz.prog (rho a0 t) 0 (evFn Tryz.prog S2 60) := by
    unfold S2
    exact s2_ok (is := isTab) ht tab_ok
  refine (hs2 3 [.sym 7 0, .sym 4 1] [.int .u64 a0, .int .u8 (.ofNat t)] (fun _ => none) h0 w r hr (LR.cons s0 (LR.cons s1 LR.nil)) ⟨fun k b hb => (hno k b hb).elim, fun k _ b _ _ _ _ _ _ hb => (hno k b hb).elim⟩
    (fun k _ => blk_h0 k) (fun _ _ _ => rfl) (Nat.zero_le _)).mono fun e w' he => ?_
  obtain ⟨u, σ', rfl, hp⟩ := he
  have hu := hp.val
  rw [hv] at hu
  cases (show u = .bool true from hu)
  refine ⟨rfl, ?_⟩
  have keep : ∀ b, b < w.heap.size → w'.heap[b]? = w.heap[b]? := fun b hb => hp.frame.keep b hb fun hf => by
    obtain ⟨k, x, _, _, hk, _⟩ := hf
    exact hno k x hk
  refine ⟨hp.frame.os, hp.frame.output, fun i hi => ?_⟩
  rw [keep i hi]
  cases w.heap[i]? with
  | none => rfl
  | some o => cases o <;> first | exact ⟨rfl, rfl, rfl, fun _ _ => rfl⟩ | exact .inr ⟨rfl, rfl⟩ | rfl

theorem post_bare {H : Type} {enc : TypeId × Value → H} {P : Program} {f : Func} {s : ChangeSpec} {apart fresh handsOn again : Bool} {W W' : World} {args : Array Value} {v : Value} {ds gs : List (DataW H)}
    (hW : DataW.Whole enc P f.params.toList s.vars apart W args.toList ds gs [])
    (hres : ∀ (b : Nat) (sp : Nat → Bool) (hd : Bool), DataW.TrodAll enc P W' b sp hd f.resultTypes.toList (v.resultList f.resultTypes.size) (s.fn H (ds ++ gs)).results [])
    (hargs : ∀ sp : Nat → Bool, DataW.TrodAll enc P W' 0 sp true f.params.toList args.toList (s.fn H (ds ++ gs)).args [])
    (hvars : ∀ sp : Nat → Bool, DataW.TrodVars enc P W' sp s.vars (s.fn H (ds ++ gs)).vars [])
    (hk : W.keptBut W' (fun _ => False))
    (hok : ∀ (j : Nat) (t : TypeId) (r : Value), f.resultTypes[j]? = some t → (v.resultList f.resultTypes.size)[j]? = some r → Value.okWide P W' .any 0 t r) :
    s.post enc P f apart fresh handsOn again W args v W' :=
  ⟨ds, gs, [], [], [], [], hW, hres _ _ _, hargs _, hvars _, World.keptBut_mono (fun _ hp => hp.elim) hk, fun _ =>
    ⟨hok, _, _, [], ⟨[], [], trodAll_append (hargs _) (hres _ _ _), hvars _, rfl, fun b off hp => (by simp at hp), fun _ => List.nodup_nil⟩, fun p hp => (by simp at hp)⟩⟩

/-! ### THE ROW's STEP: WRITTEN OUT: LEAVE IT -/
set_option maxRecDepth 100000 in
theorem lifted (os : Os) (started : os.Started) (H : Type) (enc : TypeId × Value → H) :
    ReturnsInHanded {} Tryz.checked os 3 .any (Rows.topLeasesSpec.pre6 enc Tryz.prog Tryz.f3 Rows.topLeasesRow.domain false) (Rows.topLeasesSpec.post enc Tryz.prog Tryz.f3 false true false false) := by
  refine returnsInHanded_of_change (C := Tryz.checked) own started (by kernel_rfl) Tryz.func3
    (ChangeSpec.witness6 (enc := enc) (C := Tryz.checked) false ⟨#[], #[.int .u64 0, .int .u8 0], []⟩ 8 (by kernel_rfl) (by kernel_rfl) (by kernel_rfl) (by kernel_rfl)) ?_
  intro W base args ds gs before hval0 hW hcnd _
  have hval : ∀ (j : Nat) t v, Tryz.f3.params[j]? = some t → args[j]? = some v → Value.okWide Tryz.prog W .any base t v := hval0
  have hW' := hW
  obtain ⟨p, q, hA0, hV, rfl, hfz, hnd⟩ := hW
  have hA : DataW.TrodAll enc Tryz.prog W 0 (fun _ => true) true Tryz.f3.params.toList args.toList ds p := hA0
  rw [Tryz.params3] at hA hval
  obtain ⟨v0, vs0, d0, ds0, p0, q0, hargs, rfl, rfl, h0, r0⟩ := trodAll_cons hA
  obtain ⟨v1, vs1, d1, ds1, p1, q1, rfl, rfl, rfl, h1, r1⟩ := trodAll_cons r0
  obtain ⟨rfl, rfl, rfl⟩ := trodAll_nil r1
  obtain rfl : args = #[v0, v1] := by cases args; simp_all
  obtain ⟨rfl, rfl⟩ := trodVars_none hV
  obtain ⟨a0, rfl, rfl, rfl, w0⟩ := open_int Tryz.underlying22 (hval 0 22 v0 rfl rfl) h0
  obtain ⟨a1, rfl, rfl, rfl, w1⟩ := open_int Tryz.underlying5 (hval 1 5 v1 rfl rfl) h1
  clear hA0 hval0
  simp only [List.append_nil] at hW'
  refine (walk a0 a1 w0 w1 W).mono fun e W' ⟨he, hg⟩ => ?_
  subst he
  exact ⟨_, rfl, post_bare hW' (fun _ _ _ => (trodAll_cons_mk (shut_bool Tryz.underlying4 _) trodAll_mk0)) (fun sp => (trodAll_cons_mk (shut_int Tryz.underlying22 w0) (trodAll_cons_mk (shut_int Tryz.underlying5 w1) trodAll_mk0))) (fun _ => rfl)
    hg (ok_one (by kernel_rfl) rfl (okWide_bool_mk Tryz.underlying4 _))⟩

theorem over : Rows.topLeasesRow.holds Tryz.pinned (OpenSpec.ofChange Rows.topLeasesSpec) :=
  OpenClaim.holds_of_wide 3 Tryz.f3 rfl rfl rfl rfl rfl rfl rfl ⟨rfl, rfl, rfl, rfl, rfl⟩ rfl rfl rfl rfl rfl (by kernel_rfl) Tryz.func3 closed
    (of_decide_eq_true (by kernel_rfl)) (by unfold Func.isWrapper; first | (rw [if_pos (by decide +kernel)]; kernel_rfl) | (rw [if_neg (by decide +kernel)]; exact ⟨rfl, rfl⟩))
    (fun os started H enc _ => lifted os started H enc)

/-- ████ THE STATEMENT ████ -/
theorem proved : Rows.TopLeasesSaid :=
  over
#print axioms proved
end Go.Proofs.YtogifafehihjgaaGreat.topLeases
