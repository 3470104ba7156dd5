/- OrderNone holds: the card. -/
import Derived.Test.YtcibleglaghhfaaGreatDoorCards
import Derived.Test.YtcibleglaghhfaaGreatDoorTie
import Derived.WalkKit
import Derived.ProofKit
import Derived.OpenShut
import Derived.LaidMore
import Derived.Lay
import Derived.SevenTiedAt
import Derived.Stop.Joined
import Derived.ChangeOld
import Derived.Below
import Derived.Test.YtcibleglaghhfaaGreatDoorXmPartD
namespace Go.Proofs.YtcibleglaghhfaaGreatDoor.orderNone
set_option linter.all false
set_option linter.deprecated false
open Go.Xm Go.ChangeShapes Go.WideShapes Go.ChangeAt Go.RowKit
set_option maxRecDepth 100000 in
theorem walk (x w n m : Int) (W : World) : Calls Tryz.prog 4 #[.int .u64 x, .agg #[.int .u64 w, .int .u64 n], .int .i64 m] W fun e w' => e = .returned (.bool true) ∧ Below W.heap.size W w' := by
  have hΓ : ∀ i op c b k, zeroΓ (fact (w == 0) (n == 0)) i op c = some b → binInt op k (rho x w n m i) k c = some (.bool b) := zeroΓ_ok fun i b h => by
    unfold fact at h
    split at h <;> (try (cases h; done)) <;> cases h <;> rfl
  refine law_calls (args := [.si .u64 0, .agg [.si .u64 1, .si .u64 2], .si .i64 3]) (vs := [.int .u64 x, .agg #[.int .u64 w, .int .u64 n], .int .i64 m]) (ρ := rho x w n m) (runF_ok follows (names_ok names) hΓ (ext _) (fuel := 100000) 60) (nx := 0) ?_ ?_ Tryz.func4 (by kernel_rfl) (by kernel_rfl)
  · cases w == 0 <;> cases n == 0
    · exact run_ff
    · exact run_ft
    · exact run_tf
    · exact run_tt
  · simp only [VRs, VR]
    exact ⟨_, _, rfl, rfl, _, _, rfl, ⟨_, rfl, _, _, rfl, rfl, _, _, rfl, rfl, rfl⟩, _, _, rfl, rfl, rfl⟩
theorem own : ownKnob Tryz.prog.godebug = none := by kernel_rfl
theorem laidOut : laidOutB Tryz.prog = true := by kernel_rfl
theorem cell_u64 {W : World} {base : Nat} {v : Value} (h : Cell.okWide Tryz.prog W .any base 23 v) : ∃ n, v = .int .u64 n := by
  simp only [Cell.okWide, Tryz.underlying23] at h
  cases v <;> simp_all [Cell.ok]
set_option maxRecDepth 100000 in
theorem version {W : World} {base : Nat} {v : Value} (h : Value.okWide Tryz.prog W .any base 25 v) : ∃ w n, v = .agg #[.int .u64 w, .int .u64 n] := by
  simp only [Value.okWide, Tryz.underlying25] at h
  obtain ⟨cs, rfl, hcs, ts, hts, _, hrow⟩ := h
  obtain rfl := Option.some.inj ((show Tryz.prog.cellTypes Tryz.prog.depth 25 = some [23, 23] by kernel_rfl).symm.trans hts)
  have hsz : cs.size = 2 := hcs.trans (by kernel_rfl)
  have get : ∀ i, i < 2 → ∃ n, cs[i]? = some (.int .u64 n) := by
    intro i hi
    have hv : cs[i]? = some cs[i] := Array.getElem?_eq_getElem (by omega)
    obtain ⟨u, hu, hc⟩ := hrow i _ hv
    have : u = 23 := by
      rcases i with _ | _ | i
      · simpa using hu.symm
      · simpa using hu.symm
      · omega
    subst this
    obtain ⟨n, hn⟩ := cell_u64 hc
    exact ⟨n, by rw [hv, hn]⟩
  obtain ⟨w, hw⟩ := get 0 (by omega)
  obtain ⟨n, hn⟩ := get 1 (by omega)
  refine ⟨w, n, ?_⟩
  congr 1
  apply Array.ext
  · exact hsz
  · intro i h1 h2
    have h2 : i < 2 := by simpa using h2
    have e : cs[i]? = some cs[i] := Array.getElem?_eq_getElem h1
    rcases i with _ | _ | i
    · exact Option.some.inj (e.symm.trans hw)
    · exact Option.some.inj (e.symm.trans hn)
    · omega
set_option maxRecDepth 100000 in
theorem lifted (os : Os) (started : os.Started) (H : Type) (enc : TypeId × Value → H) :
    ReturnsInHanded {} Tryz.checked os 4 .any (fun w args => (Rows.orderNoneSpec.pre enc Tryz.prog Tryz.f4 Rows.orderNoneRow.domain false w args ∧ laidMetH Tryz.prog Rows.orderNoneRow.laid w) ∧ sizedMet enc Tryz.prog Tryz.f4 (OpenSpec.ofChange Rows.orderNoneSpec) false w args)
      (Rows.orderNoneSpec.post enc Tryz.prog Tryz.f4 false true false false) := by
  refine returnsInHanded_of_change_and (C := Tryz.checked) (X := fun w _ => laidMetH Tryz.prog Rows.orderNoneRow.laid w) (fun _ _ _ hh h => h.of_heap hh) own started (by kernel_rfl) Tryz.func4
    (ChangeSpec.witness_shaped (enc := enc) (C := Tryz.checked) (os := os) (X := fun w _ => laidMetH Tryz.prog Rows.orderNoneRow.laid w) false (World.laidAll Tryz.prog os Rows.orderNoneRow.laid) #[.int .u64 0, .agg #[.int .u64 0, .int .u64 0], .int .i64 0] 8 (World.laidAll_os _ _ _)
      (World.shaped_of_ZipB (by kernel_rfl) (by kernel_rfl)) (by kernel_rfl) (by kernel_rfl) (by kernel_rfl)
      (by rw [MakeChecks.laidMetH_plain _ _ _ (by kernel_rfl)]; exact laidMet_laidAll _ (by kernel_rfl) (by kernel_rfl))) ?_
  intro W base args ds gs before hval0 hW hc _ hL _
  have hval : ∀ (j : Nat) t v, Tryz.f4.params[j]? = some t → args[j]? = some v → Value.okWide Tryz.prog W .any base t v := hval0
  have hW' := hW
  obtain ⟨p, q, hA0, hV, rfl, _, _⟩ := hW
  have hA : DataW.TrodAll enc Tryz.prog W 0 (fun _ => true) true Tryz.f4.params.toList args.toList ds p := hA0
  rw [Tryz.params4] at hA hval
  obtain ⟨v0, vs0, d0, ds0, p0, q0, hargs, rfl, rfl, h0, r0⟩ := trodAll_cons hA
  obtain ⟨v1, vs1, d1, ds1, p1, q1, rfl, rfl, rfl, h1, r1⟩ := trodAll_cons r0
  obtain ⟨v2, vs2, d2, ds2, p2, q2, rfl, rfl, rfl, h2, r2⟩ := trodAll_cons r1
  obtain ⟨rfl, rfl, rfl⟩ := trodAll_nil r2
  obtain rfl : args = #[v0, v1, v2] := by cases args; simp_all
  obtain ⟨rfl, rfl⟩ := trodVars_none hV
  have lt0 : ∀ x ∈ p0, x.block < W.heap.size := by obtain ⟨m, hm⟩ := h0; exact DataW.trod_lt m _ _ _ hm
  have lt1 : ∀ x ∈ p1, x.block < W.heap.size := by obtain ⟨m, hm⟩ := h1; exact DataW.trod_lt m _ _ _ hm
  have lt2 : ∀ x ∈ p2, x.block < W.heap.size := by obtain ⟨m, hm⟩ := h2; exact DataW.trod_lt m _ _ _ hm
  have k0 := h0
  have k1 := h1
  have k2 := h2
  obtain ⟨x, rfl⟩ := okWide_int Tryz.underlying23 (hval 0 23 v0 rfl rfl)
  obtain ⟨w, n, rfl⟩ := version (hval 1 25 v1 rfl rfl)
  obtain ⟨m, rfl⟩ := okWide_int Tryz.underlying3 (hval 2 3 v2 rfl rfl)
  clear hA0 hval0
  refine (walk x w n m W).mono fun e W' ⟨he, bel⟩ => ?_
  subst he
  exact ⟨_, rfl, _, _, _, [], _, [], hW', trodAll_mk1 (shut_bool Tryz.underlying4 _), (trodAll_cons_mk (Below.trod laidOut (by kernel_rfl) (of_decide_eq_true (by kernel_rfl)) k0 bel lt0) (trodAll_cons_mk (Below.trod laidOut (by kernel_rfl) (of_decide_eq_true (by kernel_rfl)) k1 bel lt1) (trodAll_cons_mk (Below.trod laidOut (by kernel_rfl) (of_decide_eq_true (by kernel_rfl)) k2 bel lt2) trodAll_mk0))), rfl, bel.frame _, fun h => by cases h⟩
theorem said : Rows.OrderNoneSaid :=
  OpenClaim.holds_of_wide 4 Tryz.f4 rfl rfl rfl rfl rfl rfl rfl ⟨rfl, rfl, rfl, rfl, rfl⟩ rfl rfl rfl rfl rfl (by kernel_rfl) Tryz.func4 closed
    (of_decide_eq_true (by kernel_rfl)) (by unfold Func.isWrapper; first | (rw [if_pos (by decide +kernel)]; kernel_rfl) | (rw [if_neg (by decide +kernel)]; exact ⟨rfl, rfl⟩))
    (fun os started H enc _ => lifted os started H enc)
theorem plain (f : FuncId) (fn : Func) (hf : Tryz.pinned.checked.prog.funcNamed "alibi/alibilaw11.OrderNone" = some f) (hfn : Tryz.pinned.checked.prog.funcs[f]? = some fn) :
    true = Tryz.pinned.checked.prog.looks [] ∧ ∀ (j : Nat) t, fn.params[j]? = some t → Tryz.pinned.checked.prog.wantsStandIn t = false := by
  obtain rfl : f = 4 := Option.some.inj ((show Tryz.prog.funcNamed "alibi/alibilaw11.OrderNone" = some 4 by kernel_rfl).symm.trans hf) |>.symm
  obtain rfl : fn = Tryz.f4 := (Option.some.inj (Tryz.func4.symm.trans hfn)).symm
  refine ⟨by kernel_rfl, fun j t ht => ?_⟩
  rw [Tryz.params4] at ht
  have hm : t ∈ [23, 25, 3] := by simpa using Array.mem_of_getElem? ht
  have hall : ([23, 25, 3].all fun u => !Tryz.prog.wantsStandIn u) = true := by kernel_rfl
  exact (show Tryz.prog.wantsStandIn t = false by simpa using List.all_eq_true.1 hall t hm)
/-- THE CARD -/
theorem card : Rows.OrderNoneCardSaid :=
  Claim7.holds_tied_plain_at .later [] _ _ _ _ said (fun _ h => by cases h) (by kernel_rfl) (fun _ h => by cases h) orderNone_row_tie rfl ⟨rfl, rfl⟩ (by kernel_rfl) rfl plain (by kernel_rfl)
#print axioms card
end Go.Proofs.YtcibleglaghhfaaGreatDoor.orderNone
