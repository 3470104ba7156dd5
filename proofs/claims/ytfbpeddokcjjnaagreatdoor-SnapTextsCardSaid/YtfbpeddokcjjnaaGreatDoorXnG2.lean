/- SnapTexts holds: the card. -/
import Derived.Test.YtfbpeddokcjjnaaGreatDoorCards
import Derived.Test.YtfbpeddokcjjnaaGreatDoorTie
import Derived.WalkKit
import Derived.ProofKit
import Derived.OpenShut
import Derived.LaidMore
import Derived.Lay
import Derived.SevenTiedAt
import Derived.Stop.Joined
import Derived.Stop.LaidErr
import Derived.ChangeOld
import Derived.Below
import Derived.Test.YtfbpeddokcjjnaaGreatDoorXmPartF
import Derived.Lib.AppendIntMem
import Derived.Lib.LaidTab
namespace Go.Proofs.YtfbpeddokcjjnaaGreatDoor.snapTexts
set_option linter.all false
set_option linter.deprecated false
open Go.Sort Go.Xn Go.ChangeShapes Go.WideShapes Go.ChangeAt Go.RowKit
def vals (xs : Nat → Int) : Array Value := #[.int .i64 (xs 0), .int .i64 (xs 1), .int .u64 (xs 2), .int .u64 (xs 3), .int .u64 (xs 4), .int .u64 (xs 5), .int .u64 (xs 6), .int .i64 (xs 7), .int .i64 (xs 8)]
def kinds : List IntKind := [.i64, .i64, .u64, .u64, .u64, .u64, .u64, .i64, .i64]
def Fits (xs : Nat → Int) : Prop := ∀ (i : Nat) (k : IntKind), kinds[i]? = some k → k.has (xs i)
theorem has_i64 {xs : Nat → Int} (h : Fits xs) {i : Nat} (hi : i ∈ [1, 7, 8]) : -9223372036854775808 ≤ xs i ∧ xs i ≤ 9223372036854775807 := by
  have : kinds[i]? = some .i64 := by
    simp only [List.mem_cons, List.not_mem_nil, or_false] at hi
    rcases hi with rfl | rfl | rfl <;> rfl
  exact h i _ this
theorem has_u64 {xs : Nat → Int} (h : Fits xs) {i : Nat} (hi : i ∈ [2, 3, 4, 5, 6]) : 0 ≤ xs i ∧ xs i ≤ 18446744073709551615 := by
  have : kinds[i]? = some .u64 := by
    simp only [List.mem_cons, List.not_mem_nil, or_false] at hi
    rcases hi with rfl | rfl | rfl | rfl | rfl <;> rfl
  exact h i _ this
theorem below_drew {w w' : World} {k : Nat} {os : Array Obj} (h : w' = grow (w.drewN k) os) : Below w.heap.size w w' := by
  subst h
  exact Lib.below_grow _ _ (Nat.le_refl _) _ _
theorem glob : Tryz.prog.globalNamed "internal/strconv.uint64pow10" = some 0 := by kernel_rfl
section
variable {xs : Nat → Int} (hf : Fits xs) (x : Array Value × TypeId × (Nat × Nat)) (hx : x.1 = (Lib.pow10Tab.map fun z => Value.int .u64 z).toArray)
def rho (xs : Nat → Int) (x : Array Value × TypeId × (Nat × Nat)) : Rho := ⟨xs, fixOne 0 x⟩
include hx in
theorem tab {w : World} {σ : Sig} {M : Hp} (hok : Ok (rho xs x) w σ M) : Lib.TabIs Tryz.prog w "internal/strconv.uint64pow10" .u64 Lib.pow10Tab :=
  tab_of_fix hok glob (x := x) (by simp [rho, fixOne]) hx
include hf in
theorem len_i {i : Nat} (hi : i ∈ [1, 7, 8]) : (Lib.itoa ((rho xs x) i)).length ≤ 21 := Lib.itoa_length_le _ (has_i64 hf hi).1 (has_i64 hf hi).2
include hf in
theorem nat_u {i : Nat} (hi : i ∈ [2, 3, 4, 5, 6]) : ∃ u : Nat, xs i = u ∧ u < 18446744073709551616 := ⟨(xs i).toNat, by have := has_u64 hf hi; omega, by have := has_u64 hf hi; omega⟩
include hf in
theorem len_u {i : Nat} (hi : i ∈ [2, 3, 4, 5, 6]) : (Lib.itoa ((rho xs x) i)).length ≤ 21 := by
  obtain ⟨u, h1, h2⟩ := nat_u hf hi
  show (Lib.itoa (xs i)).length ≤ 21
  rw [h1, Lib.itoa_nonneg, Lib.decDigits_length]
  exact Nat.le_succ_of_le (Lib.nDigits_le20 u h2)
include hf hx in
set_option maxRecDepth 100000 in
theorem e15 : ExtOk Tryz.prog (rho xs x) (extZ 15 .u64 [2, 3, 4, 5, 6] (some 10)) :=
  extZ_ok Tryz.func15 (names_ok names _ _ Tryz.func15) (by kernel_rfl) (fun i hi => len_u hf x hi) fun w σ M i hok hi => by
    obtain ⟨u, h1, h2⟩ := nat_u hf hi
    show Calls Tryz.prog 15 [Value.int .u64 (xs i), Value.int .i64 10].toArray w fun e w' => e = .returned (.string ⟨(Lib.itoa (xs i)).toArray⟩) ∧ Below w.heap.size w w'
    rw [h1]
    exact (Tryz.strconv_FormatUint u h2 w (tab x hx hok)).mono fun e w' ⟨q1, k, os, q2⟩ => ⟨q1, below_drew q2⟩
include hf hx in
set_option maxRecDepth 100000 in
theorem e16 : ExtOk Tryz.prog (rho xs x) (extZ 16 .i64 [1, 7, 8] none) :=
  extZ_ok Tryz.func16 (names_ok names _ _ Tryz.func16) (by kernel_rfl) (fun i hi => len_i hf x hi) fun w σ M i hok hi =>
    (Tryz.strconv_Itoa (xs i) (has_i64 hf hi).1 (has_i64 hf hi).2 w (tab x hx hok)).mono fun e w' ⟨q1, k, os, q2⟩ => ⟨q1, below_drew q2⟩
include hf in
set_option maxRecDepth 100000 in
theorem e20 : ExtOk Tryz.prog (rho xs x) (extZ 20 .u64 [2, 3, 4, 5, 6] none) :=
  extZ_ok Tryz.func20 (names_ok names _ _ Tryz.func20) (by kernel_rfl) (fun i hi => len_u hf x hi) fun w σ M i hok hi => by
    obtain ⟨u, h1, h2⟩ := nat_u hf hi
    show Calls Tryz.prog 20 [Value.int .u64 (xs i)].toArray w fun e w' => e = .returned (.string ⟨(Lib.itoa (xs i)).toArray⟩) ∧ Below w.heap.size w w'
    rw [h1, Lib.itoa_nonneg]
    exact (Tryz.digits_ref w u h2).mono fun e w' ⟨q1, q2⟩ => ⟨q1, by rw [q2]; exact Below.refl _ _⟩
include hf in
set_option maxRecDepth 100000 in
theorem e19 : ExtOk Tryz.prog (rho xs x) (extZ 19 .i64 [1, 7, 8] none) :=
  extZ_ok Tryz.func19 (names_ok names _ _ Tryz.func19) (by kernel_rfl) (fun i hi => len_i hf x hi) fun w σ M i hok hi =>
    (Tryz.whole_ref w (xs i) (has_i64 hf hi).1 (has_i64 hf hi).2).mono fun e w' ⟨q1, q2⟩ => ⟨q1, by rw [q2]; exact Below.refl _ _⟩
include hf hx in
set_option maxRecDepth 100000 in
theorem ext2_ok : ExtOk Tryz.prog (rho xs x) ext2 :=
  (extTrue_ok Tryz.func8 (names_ok names _ _ Tryz.func8) (by kernel_rfl) works).or ((e15 hf x hx).or ((e16 hf x hx).or ((e20 hf x).or ((e19 hf x).or (joinT_ext _)))))
end
set_option maxRecDepth 100000 in
theorem walk (xs : Nat → Int) (hf : Fits xs) (W : World) (htab : Lib.TabIs Tryz.prog W "internal/strconv.uint64pow10" .u64 Lib.pow10Tab) : Calls Tryz.prog 3 #[.agg (vals xs)] W fun e w' => e = .returned (.bool true) ∧ Below W.heap.size W w' := by
  obtain ⟨x, hx1, hx2⟩ := fix_of_tab glob htab
  have h0 : Ok (rho xs x) W noS .nil := ok_nil fun b y hb => by
    simp only [rho, fixOne] at hb
    split at hb
    · rename_i e; cases hb; subst e; exact hx1
    · cases hb
  have hv : VRs (rho xs x) noS args0 [.agg (vals xs)] := by
    simp only [args0, VRs, VR]
    exact ⟨_, _, rfl, ⟨_, rfl, _, _, rfl, rfl, _, _, rfl, rfl, _, _, rfl, rfl, _, _, rfl, rfl, _, _, rfl, rfl, _, _, rfl, rfl, _, _, rfl, rfl, _, _, rfl, rfl, _, _, rfl, rfl, rfl⟩, rfl⟩
  have go : ∀ k, decide (xs 0 = 1) = Nat.beq k 1 → decide (xs 0 = 2) = Nat.beq k 2 → okB (runF Tryz.prog (kindΓ k) ext2 100000 60 3 args0 .nil 0) = true → Calls Tryz.prog 3 #[.agg (vals xs)] W fun e w' => e = .returned (.bool true) ∧ Below W.heap.size W w' := fun k h1 h2 hr =>
    law_calls (ρ := rho xs x) (runF_ok follows (names_ok names) (kindΓ_ok h1 h2) (ext2_ok hf x hx2) (fuel := 100000) 60) h0 owned_nil (fun _ _ => rfl) hr hv Tryz.func3 (by kernel_rfl) (by kernel_rfl)
  by_cases e1 : xs 0 = 1
  · exact go 1 (by rw [e1]; rfl) (by rw [e1]; rfl) run_1
  · by_cases e2 : xs 0 = 2
    · exact go 2 (by rw [e2]; rfl) (by rw [e2]; rfl) run_2
    · exact go 0 (by rw [decide_eq_false e1]; rfl) (by rw [decide_eq_false e2]; rfl) run_0
theorem own : ownKnob Tryz.prog.godebug = none := by kernel_rfl
theorem laidOut : laidOutB Tryz.prog = true := by kernel_rfl
theorem cell_i64 {W : World} {base : Nat} {v : Value} (h : Cell.okWide Tryz.prog W .any base 3 v) : ∃ n, v = .int .i64 n ∧ IntKind.i64.has n := by
  simp only [Cell.okWide, Tryz.underlying3] at h
  cases v <;> simp_all [Cell.ok]
theorem cell_u64 {W : World} {base : Nat} {v : Value} (h : Cell.okWide Tryz.prog W .any base 22 v) : ∃ n, v = .int .u64 n ∧ IntKind.u64.has n := by
  simp only [Cell.okWide, Tryz.underlying22] at h
  cases v <;> simp_all [Cell.ok]
set_option maxRecDepth 100000 in
theorem fault {W : World} {base : Nat} {v : Value} (h : Value.okWide Tryz.prog W .any base 26 v) : ∃ xs, v = .agg (vals xs) ∧ Fits xs := by
  simp only [Value.okWide, Tryz.underlying26] at h
  obtain ⟨cs, rfl, hcs, ts, hts, _, hrow⟩ := h
  obtain rfl := Option.some.inj ((show Tryz.prog.cellTypes Tryz.prog.depth 26 = some [3, 3, 22, 22, 22, 22, 22, 3, 3] by kernel_rfl).symm.trans hts)
  have hsz : cs.size = 9 := hcs.trans (by kernel_rfl)
  have get : ∀ (i : Nat) (k : IntKind), kinds[i]? = some k → ∃ n, cs[i]? = some (.int k n) ∧ k.has n := by
    intro i k hk
    have hi : i < 9 := (List.getElem?_eq_some_iff.1 hk).1
    have hv : cs[i]? = some cs[i] := Array.getElem?_eq_getElem (by omega)
    obtain ⟨u, hu, hc⟩ := hrow i _ hv
    rw [hv]
    have hmod : i % [3, 3, 22, 22, 22, 22, 22, 3, 3].length = i := Nat.mod_eq_of_lt hi
    rw [hmod] at hu
    rcases i with _ | _ | _ | _ | _ | _ | _ | _ | _ | i
    all_goals first
      | (cases hk; cases hu; obtain ⟨n, e1, e2⟩ := cell_i64 hc; exact ⟨n, by rw [e1], e2⟩)
      | (cases hk; cases hu; obtain ⟨n, e1, e2⟩ := cell_u64 hc; exact ⟨n, by rw [e1], e2⟩)
      | omega
  obtain ⟨xs, hxs⟩ : ∃ xs : Nat → Int, ∀ (i : Nat) (k : IntKind), kinds[i]? = some k → cs[i]? = some (.int k (xs i)) ∧ k.has (xs i) := by
    refine ⟨fun i => match cs[i]? with | some (.int _ n) => n | _ => 0, fun i k hk => ?_⟩
    obtain ⟨n, h1, h2⟩ := get i k hk
    simp only [h1]
    exact ⟨trivial, h2⟩
  refine ⟨xs, ?_, fun i k hk => (hxs i k hk).2⟩
  congr 1
  apply Array.ext
  · exact hsz
  · intro i h1 h2
    have h2 : i < 9 := h2
    have e : cs[i]? = some cs[i] := Array.getElem?_eq_getElem h1
    rcases i with _ | _ | _ | _ | _ | _ | _ | _ | _ | i
    all_goals first
      | exact Option.some.inj (e.symm.trans (hxs _ _ rfl).1)
      | omega
theorem pow_laid {W : World} (h : laidMetH Tryz.prog Rows.snapTextsRow.laid W) : Lib.TabIs Tryz.prog W "internal/strconv.uint64pow10" .u64 Lib.pow10Tab := by
  rw [MakeChecks.laidMetH_plain _ _ _ (by kernel_rfl)] at h
  exact Lib.tabIs_of_head (t := 204) (e := 22) (n := 20) glob (by kernel_rfl) Tryz.underlying204 Tryz.underlying22 (by kernel_rfl) (by kernel_rfl) (laidMet.tail (laidMet.tail h))
set_option maxRecDepth 100000 in
theorem lifted (os : Os) (started : os.Started) (H : Type) (enc : TypeId × Value → H) :
    ReturnsInHanded {} Tryz.checked os 3 .any (fun w args => (Rows.snapTextsSpec.pre enc Tryz.prog Tryz.f3 Rows.snapTextsRow.domain false w args ∧ laidMetH Tryz.prog Rows.snapTextsRow.laid w) ∧ sizedMet enc Tryz.prog Tryz.f3 (OpenSpec.ofChange Rows.snapTextsSpec) false w args)
      (Rows.snapTextsSpec.post enc Tryz.prog Tryz.f3 false true false false) := by
  refine returnsInHanded_of_change_and (C := Tryz.checked) (X := fun w _ => laidMetH Tryz.prog Rows.snapTextsRow.laid w) (fun _ _ _ hh h => h.of_heap hh) own started (by kernel_rfl) Tryz.func3
    (ChangeSpec.witness_shaped (enc := enc) (C := Tryz.checked) (os := os) (X := fun w _ => laidMetH Tryz.prog Rows.snapTextsRow.laid w) false (World.laidAll Tryz.prog os Rows.snapTextsRow.laid) #[.agg #[.int .i64 0, .int .i64 0, .int .u64 0, .int .u64 0, .int .u64 0, .int .u64 0, .int .u64 0, .int .i64 0, .int .i64 0]] 8 (World.laidAll_os _ _ _)
      (World.shaped_of_ZipB (by kernel_rfl) (by kernel_rfl)) (by kernel_rfl) (by kernel_rfl) (by kernel_rfl)
      (by rw [MakeChecks.laidMetH_plain _ _ _ (by kernel_rfl)]; exact laidMet_laidAll _ (by kernel_rfl) (by kernel_rfl))) ?_
  intro W base args ds gs before hval0 hW hc _ hL _
  have hval : ∀ (j : Nat) t v, Tryz.f3.params[j]? = some t → args[j]? = some v → Value.okWide Tryz.prog W .any base t v := hval0
  have hW' := hW
  obtain ⟨p, q, hA0, hV, rfl, _, _⟩ := hW
  have hA : DataW.TrodAll enc Tryz.prog W 0 (fun _ => true) true Tryz.f3.params.toList args.toList ds p := hA0
  rw [Tryz.params3] at hA hval
  obtain ⟨v0, vs0, d0, ds0, p0, q0, hargs, rfl, rfl, h0, r0⟩ := trodAll_cons hA
  obtain ⟨rfl, rfl, rfl⟩ := trodAll_nil r0
  obtain rfl : args = #[v0] := by cases args; simp_all
  obtain ⟨rfl, rfl⟩ := trodVars_none hV
  have lt0 : ∀ x ∈ p0, x.block < W.heap.size := by obtain ⟨m, hm⟩ := h0; exact DataW.trod_lt m _ _ _ hm
  have k0 := h0
  obtain ⟨xs, rfl, hf⟩ := fault (hval 0 26 v0 rfl rfl)
  clear hA0 hval0
  refine (walk xs hf W (pow_laid hL)).mono fun e W' ⟨he, bel⟩ => ?_
  subst he
  exact ⟨_, rfl, _, _, _, [], _, [], hW', trodAll_mk1 (shut_bool Tryz.underlying4 _), (trodAll_cons_mk (Below.trod laidOut (by kernel_rfl) (of_decide_eq_true (by kernel_rfl)) k0 bel lt0) trodAll_mk0), rfl, bel.frame _, fun h => by cases h⟩
theorem said : Rows.SnapTextsSaid :=
  OpenClaim.holds_of_wide 3 Tryz.f3 rfl rfl rfl rfl rfl rfl rfl ⟨rfl, rfl, rfl, rfl, rfl⟩ rfl rfl rfl rfl rfl (by kernel_rfl) Tryz.func3 closed
    (of_decide_eq_true (by kernel_rfl)) (by unfold Func.isWrapper; first | (rw [if_pos (by decide +kernel)]; kernel_rfl) | (rw [if_neg (by decide +kernel)]; exact ⟨rfl, rfl⟩))
    (fun os started H enc _ => lifted os started H enc)
theorem plain (f : FuncId) (fn : Func) (hf : Tryz.pinned.checked.prog.funcNamed "alibi/alibilaw25.SnapTexts" = some f) (hfn : Tryz.pinned.checked.prog.funcs[f]? = some fn) :
    true = Tryz.pinned.checked.prog.looks [] ∧ ∀ (j : Nat) t, fn.params[j]? = some t → Tryz.pinned.checked.prog.wantsStandIn t = false := by
  obtain rfl : f = 3 := Option.some.inj ((show Tryz.prog.funcNamed "alibi/alibilaw25.SnapTexts" = some 3 by kernel_rfl).symm.trans hf) |>.symm
  obtain rfl : fn = Tryz.f3 := (Option.some.inj (Tryz.func3.symm.trans hfn)).symm
  refine ⟨by kernel_rfl, fun j t ht => ?_⟩
  rw [Tryz.params3] at ht
  have hm : t ∈ [26] := by simpa using Array.mem_of_getElem? ht
  have hall : ([26].all fun u => !Tryz.prog.wantsStandIn u) = true := by kernel_rfl
  exact (show Tryz.prog.wantsStandIn t = false by simpa using List.all_eq_true.1 hall t hm)
/-- THE CARD -/
theorem card : Rows.SnapTextsCardSaid :=
  Claim7.holds_tied_plain_at .later [] _ _ _ _ said (fun _ h => by cases h) (by kernel_rfl) (fun _ h => by cases h) snapTexts_row_tie rfl ⟨rfl, rfl⟩ (by kernel_rfl) rfl plain (by kernel_rfl)
#print axioms card
end Go.Proofs.YtfbpeddokcjjnaaGreatDoor.snapTexts
