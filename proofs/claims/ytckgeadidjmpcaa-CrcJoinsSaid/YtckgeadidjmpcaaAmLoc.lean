/- What an operation looks at: its operands' slots, the keys that it reads. -/
import Derived.Test.YtckgeadidjmpcaaAmAop
namespace Go.Am
set_option linter.all false
set_option linter.deprecated false
section
variable {M N : MS} {T : TT} {G : Ctx} {env env' : List AV} {res res' : List (Nat × Bool)}

def opnds : Op → List Operand
  | .move x | .assign x | .box _ x | .load _ x | .nilCheck x | .unOp _ _ x | .convert _ _ x | .fieldAddr _ x _ | .field _ x _ | .extract x _ => [x]
  | .pick c a b => [c, a, b]
  | .build _ ps | .buildSlice _ _ ps => ps.toList.map (·.2)
  | .store _ a v | .binOp _ _ a v _ | .makeSlice _ a v | .indexAddr _ a v | .index _ a v => [a, v]
  | .makeFunc _ _ caps => caps.toList
  | .slice _ x l h m => x :: (l.toList ++ (h.toList ++ m.toList))
  | .call c => (match c.callee with | .value f => [f] | _ => []) ++ c.args.toList
  | _ => []

theorem opvs_env : ∀ {xs : List Operand}, (∀ x ∈ xs, opv env' x = opv env x) → opvs env' xs = opvs env xs
  | [], _ => rfl
  | x :: xs, h => by simp only [opvs]; rw [h x List.mem_cons_self, opvs_env fun y hy => h y (List.mem_cons_of_mem _ hy)]
theorem pairs_env : ∀ {ps : List (Nat × Operand)}, (∀ x ∈ ps.map (·.2), opv env' x = opv env x) → pairs env' ps = pairs env ps
  | [], _ => rfl
  | (i, x) :: ps, h => by simp only [pairs]; rw [h x (by simp), pairs_env fun y hy => h y (by simp at hy ⊢; exact .inr hy)]
theorem omap_env {x : Option Operand} (h : ∀ y ∈ x.toList, opv env' y = opv env y) : omap env' x = omap env x := by
  cases x with
  | none => rfl
  | some y => simp only [omap]; rw [h y (by simp)]
theorem aop_env {key : Nat} {o : Op} (h : ∀ x ∈ opnds o, opv env' x = opv env x) (hr : ∀ x ∈ opnds o, resOf res' x = resOf res x) : aop T G env' res' M key o = aop T G env res M key o := by
  unfold aop
  split
  · rw [h _ (by simp [opnds])]
  · rw [h _ (by simp [opnds])]
  · rename_i c a b
    rw [hr c (by simp [opnds]), h c (by simp [opnds]), h a (by simp [opnds]), h b (by simp [opnds])]
  · rfl
  · rw [h _ (by simp [opnds])]
  · rw [pairs_env h]
  · rw [pairs_env h]
  · rw [h _ (by simp [opnds])]
  · rename_i t a x
    rw [h a (by simp [opnds]), h x (by simp [opnds])]
  · rw [h _ (by simp [opnds])]
  · rename_i op t x y _
    rw [h x (by simp [opnds]), h y (by simp [opnds])]
  · rw [h _ (by simp [opnds])]
  · rw [h _ (by simp [opnds])]
  · rename_i f first caps
    have e1 : opvs env' caps.toList = opvs env caps.toList := opvs_env h
    rw [e1]
  · rename_i t l c
    rw [h l (by simp [opnds]), h c (by simp [opnds])]
  · rename_i t x lo hi mx
    have e1 : omap env' lo = omap env lo := omap_env fun y hy => h y (by simp only [opnds, List.mem_cons, List.mem_append]; exact .inr (.inl hy))
    have e2 : omap env' hi = omap env hi := omap_env fun y hy => h y (by simp only [opnds, List.mem_cons, List.mem_append]; exact .inr (.inr (.inl hy)))
    have e3 : omap env' mx = omap env mx := omap_env fun y hy => h y (by simp only [opnds, List.mem_cons, List.mem_append]; exact .inr (.inr (.inr hy)))
    rw [e1, e2, e3, h x (by simp [opnds])]
  · rw [h _ (by simp [opnds])]
  · rw [h _ (by simp [opnds])]
  · rename_i t x i
    rw [h x (by simp [opnds]), h i (by simp [opnds])]
  · rename_i t x i
    rw [h x (by simp [opnds]), h i (by simp [opnds])]
  · rw [h _ (by simp [opnds])]
  · rename_i c
    have e1 : opvs env' c.args.toList = opvs env c.args.toList := opvs_env fun y hy => h y (by simp only [opnds, List.mem_append]; exact .inr hy)
    have e2 : ∀ f, c.callee = .value f → opv env' f = opv env f := fun f hf => h f (by simp [opnds, hf])
    cases hc : c.callee with
    | builtin b => simp only; rw [e1]
    | value f => simp only; rw [e2 f hc, e1]
    | invoke r n => rfl
  · rfl

def Agree (M N : MS) (l : List Nat) : Prop := ∀ k ∈ l, mget N k = mget M k
theorem Agree.l {a b : List Nat} (h : Agree M N (a ++ b)) : Agree M N a := fun k hk => h k (List.mem_append_left _ hk)
theorem Agree.r {a b : List Nat} (h : Agree M N (a ++ b)) : Agree M N b := fun k hk => h k (List.mem_append_right _ hk)
theorem Agree.hd {a : Nat} {b : List Nat} (h : Agree M N (a :: b)) : mget N a = mget M a := h a List.mem_cons_self
theorem Agree.tl {a : Nat} {b : List Nat} (h : Agree M N (a :: b)) : Agree M N b := fun k hk => h k (List.mem_cons_of_mem _ hk)

theorem freeze_loc : ∀ {l : List Nat}, Agree M N l → freeze N l = freeze M l
  | [], _ => rfl
  | k :: ks, h => by simp only [freeze]; rw [h.hd, freeze_loc h.tl]
mutual
theorem ro_loc : ∀ (v v' : AV) (l : List Nat) (c : List (Unit → Prop)), ro M v = some (v', l, c) → Agree M N l → ro N v = some (v', l, c) := by
  intro v v' l c h ha
  unfold ro at h ⊢
  split at h
  · split at h <;> (try (cases h; done)) <;>
    · rename_i hm
      cases h
      simp only [ha.hd, hm]
  · split at h <;> (try (cases h; done))
    rename_i h1
    cases h
    simp only [ros_loc _ _ _ _ h1 ha]
  · split at h <;> (try (cases h; done))
    rename_i h1
    cases h
    simp only [ros_loc _ _ _ _ h1 ha]
  · cases h
  · cases h
  · cases h
  · cases h
  · cases h
  · cases h
    rfl
theorem ros_loc : ∀ (vs vs' : List AV) (l : List Nat) (c : List (Unit → Prop)), ros M vs = some (vs', l, c) → Agree M N l → ros N vs = some (vs', l, c)
  | [], _, _, _, h, _ => by simpa only [ros] using h
  | v :: vs, vs', l, c, h, ha => by
    unfold ros at h ⊢
    split at h <;> (try (cases h; done))
    rename_i h1 h2
    cases h
    rw [ro_loc _ _ _ _ h1 ha.l, ros_loc _ _ _ _ h2 ha.r]
end
theorem load1_loc {ti : TI} {v : AV} {e : Eff} (h : load1 M ti v = some e) (ha : Agree M N e.rd) : load1 N ti v = some e := by
  unfold load1 at h ⊢
  split at h
  · exact h
  · split at h <;> (try (cases h; done))
    rename_i hm
    split at h <;> (try (cases h; done))
    rename_i h1 h2
    cases h
    simp only [ha.hd, hm, h1, h2]
  · split at h <;> (try (cases h; done)) <;>
    · rename_i hm
      split at h <;> (try (cases h; done))
      rename_i h1 h2
      cases h
      simp only [ha.hd, hm, h1, h2]
  · split at h <;> (try (cases h; done))
    rename_i hm h0 h3
    split at h <;> (try (cases h; done))
    rename_i h1 h2
    cases h
    simp only [ha.hd, hm, h1, h2, h0, h3]
  · cases h
theorem store1_loc {ti : TI} {x v : AV} {e : Eff} (h : store1 M ti x v = some e) (ha : Agree M N e.rd) : store1 N ti x v = some e := by
  unfold store1 at h ⊢
  split at h
  · split at h <;> (try (cases h; done))
    rename_i hm
    split at h <;> (try (cases h; done))
    rename_i h1 h2 h3
    cases h
    simp only [ha.hd, hm, h1, h2, h3]
  · split at h <;> (try (cases h; done))
    rename_i hm
    split at h <;> (try (cases h; done))
    rename_i hr
    split at h <;> (try (cases h; done))
    rename_i h1 h2 h3 h4
    split at h <;> (try (cases h; done))
    · rename_i g1 g2 g3
      cases h
      simp only [ha.hd, hm, ros_loc _ _ _ _ hr ha.tl, h1, h2, h3, h4, g1, g2, g3, freeze_loc ha.tl]
    · rename_i g3 g4
      cases h
      simp only [ha.hd, hm, ros_loc _ _ _ _ hr ha.tl, h1, h2, h3, h4, g3, freeze_loc ha.tl]
  · cases h
theorem elems_loc {v : AV} {sh : List Sh} {xs : Unit → List (List D)} {l : List Nat} {c : List (Unit → Prop)} (h : elems M v = some (sh, xs, l, c)) (ha : Agree M N l) : elems N v = some (sh, xs, l, c) := by
  unfold elems at h ⊢
  split at h
  · exact h
  · split at h <;> (try (cases h; done)) <;>
    · rename_i hm
      cases h
      simp only [ha.hd, hm]
  · cases h
theorem rowSz_loc {n : Nat} (h : mget N n = mget M n) : rowSz N n = rowSz M n := by unfold rowSz; rw [h]
theorem appendAv_loc {key eb : Nat} {esh : List Sh} {s x : AV} {e : Eff} (h : appendAv M key esh eb s x = some e) (ha : Agree M N e.rd) : appendAv N key esh eb s x = some e := by
  unfold appendAv at h ⊢
  split at h
  · exact h
  · rename_i h1 h2
    split at h <;> (try (cases h; done))
    rename_i hel
    split at h <;> (try (cases h; done))
    · rename_i g1
      cases h
      simp only [elems_loc hel ha, g1]
    · rename_i g1
      split at h <;> (try (cases h; done))
      rename_i hm hn
      split at h <;> (try (cases h; done))
      rename_i g2
      cases h
      simp only [elems_loc hel ha.tl, g1, ha.hd, hm, hn, g2]
  · cases h
theorem appendZ_loc {key eb : Nat} {esh : List Sh} {ds : List (Unit → D)} {s : AV} {n : Unit → Int} {e : Eff} (h : appendZ M key esh eb ds s n = some e) (ha : Agree M N e.rd) : appendZ N key esh eb ds s n = some e := by
  unfold appendZ at h ⊢
  split at h <;> (try (cases h; done))
  rename_i h1
  split at h <;> (try (cases h; done))
  rename_i hm
  split at h <;> (try (cases h; done))
  rename_i g2
  cases h
  simp only [h1, ha.hd, hm, g2]
theorem sliceAv_loc {td : TD} {x : AV} {lo hi mx : Option AV} {e : Eff} (h : sliceAv M td x lo hi mx = some e) (ha : Agree M N e.rd) : sliceAv N td x lo hi mx = some e := by
  unfold sliceAv at h ⊢
  split at h
  · cases h
  · rename_i hl
    split at h
    · split at h
      · cases h
      · rename_i hh
        split at h <;> (try (cases h; done))
        rename_i h1 h2
        cases h
        simp only [hl, hh, h1, h2]
    · split at h
      · cases h
      · rename_i hh
        split at h <;> (try (cases h; done))
        rename_i h1 h2
        split at h <;> (try (cases h; done))
        rename_i h3
        cases h
        simp only [hl, hh, h1, rowSz_loc ha.hd, h2, h3]
    · split at h <;> (try (cases h; done))
      rename_i hh
      cases h
      simp only [hl, hh]
    · cases h
theorem indexAddrAv_loc {td : TD} {x i : AV} {e : Eff} (h : indexAddrAv M td x i = some e) (ha : Agree M N e.rd) : indexAddrAv N td x i = some e := by
  unfold indexAddrAv at h ⊢
  split at h
  · exact h
  · split at h <;> (try (cases h; done))
    rename_i h1
    split at h <;> (try (cases h; done))
    rename_i h2
    cases h
    simp only [rowSz_loc ha.hd, h1, h2]
  · exact h
  · cases h
theorem convAv_loc {key src dst : Nat} {x : AV} {e : Eff} (h : convAv M key T src dst x = some e) (ha : Agree M N e.rd) : convAv N key T src dst x = some e := by
  unfold convAv at h ⊢
  split at h <;> (try (cases h; done))
  split at h
  · exact h
  · exact h
  · exact h
  · exact h
  · split at h <;> (try (cases h; done))
    rename_i h1
    split at h <;> (try (cases h; done))
    rename_i h2 h3
    cases h
    simp only [h1, h2, elems_loc h3 ha]
  · split at h <;> (try (cases h; done))
    rename_i h1 h2 h3
    cases h
    simp only [h1, h2, h3, ha.hd]
  · cases h
theorem builtinAv_loc {key : Nat} {b : Builtin} {ats : List Nat} {args : List AV} {e : Eff} (h : builtinAv M key T b ats args = some e) (ha : Agree M N e.rd) : builtinAv N key T b ats args = some e := by
  unfold builtinAv at h ⊢
  split at h
  · exact h
  · split at h <;> (try (cases h; done))
    split at h <;> (try (cases h; done))
    rename_i h1
    split at h <;> (try (cases h; done))
    rename_i h2
    split at h
    · rename_i h3
      simp only [h1, h2, h3, appendAv_loc h ha]
    · rename_i h3
      split at h <;> (try (cases h; done))
      rename_i h4 h5
      split at h <;> (try (cases h; done))
      rename_i h6
      simp only [h1, h2, h3, h4, h5, h6, appendZ_loc h ha]
  · exact h
  · split at h <;> (try (cases h; done))
    rename_i h1 h2
    split at h <;> (try (cases h; done))
    rename_i h3 h4
    split at h <;> (try (cases h; done))
    split at h <;> (try (cases h; done))
    rename_i h5
    split at h <;> (try (cases h; done))
    rename_i h6
    split at h <;> (try (cases h; done))
    rename_i h7
    cases h
    simp only [ha.hd, h1, elems_loc h2 ha.tl, h3, h4, h5, h6, h7]
  · cases h
theorem modeArgs_loc : ∀ {ms : List Mode} {vs vs' : List AV} {l : List Nat} {c : List (Unit → Prop)}, modeArgs M ms vs = some (vs', l, c) → Agree M N l → modeArgs N ms vs = some (vs', l, c)
  | [], [], _, _, _, h, _ => by simpa only [modeArgs] using h
  | [], _ :: _, _, _, _, h, _ => by simp [modeArgs] at h
  | .ro :: _, [], _, _, _, h, _ => by simp [modeArgs] at h
  | .mut :: _, [], _, _, _, h, _ => by simp [modeArgs] at h
  | .ro :: ms, v :: vs, _, _, _, h, ha => by
    unfold modeArgs at h ⊢
    split at h <;> (try (cases h; done))
    rename_i h1 h2
    cases h
    rw [ro_loc _ _ _ _ h1 ha.l, modeArgs_loc h2 ha.r]
  | .mut :: ms, v :: vs, _, _, _, h, ha => by
    unfold modeArgs at h ⊢
    split at h <;> (try (cases h; done))
    rename_i h2
    cases h
    rw [modeArgs_loc h2 ha]
theorem keysOf_sub : (∀ (v : AV) (ks : List Nat), ∀ k ∈ ks, k ∈ keysOf v ks) ∧ ∀ (vs : List AV) (ks : List Nat), ∀ k ∈ ks, k ∈ keysOfs vs ks := by
  have one : ∀ (n : Nat) (ks : List Nat), ∀ k ∈ ks, k ∈ (match nmem ks n with | true => ks | false => ks ++ [n]) := by
    intro n ks k hk
    split
    · exact hk
    · exact List.mem_append_left _ hk
  refine ⟨fun v => ?_, fun vs => ?_⟩
  · exact AV.rec (motive_1 := fun v => ∀ (ks : List Nat), ∀ k ∈ ks, k ∈ keysOf v ks) (motive_2 := fun vs => ∀ (ks : List Nat), ∀ k ∈ ks, k ∈ keysOfs vs ks)
      (fun _ _ h => h) (fun _ _ h => h) (fun _ _ _ _ h => h) (fun _ _ _ h => h) (fun _ _ _ h => h) (fun _ _ h => h) (fun _ _ h => h) (fun _ _ h => h)
      (fun _ _ _ _ _ h => h) (fun _ ih ks k h => ih ks k h) (fun n _ _ ks k h => one n ks k h) (fun n _ ks k h => one n ks k h) (fun n _ _ ks k h => one n ks k h) (fun n _ _ _ ks k h => one n ks k h)
      (fun _ ih ks k h => ih ks k h) (fun _ ih ks k h => ih ks k h) (fun _ _ ih ks k h => ih ks k h) (fun _ _ h => h) (fun v vs i1 i2 ks k h => i2 _ k (i1 ks k h)) v
  · exact AV.rec_1 (motive_1 := fun v => ∀ (ks : List Nat), ∀ k ∈ ks, k ∈ keysOf v ks) (motive_2 := fun vs => ∀ (ks : List Nat), ∀ k ∈ ks, k ∈ keysOfs vs ks)
      (fun _ _ h => h) (fun _ _ h => h) (fun _ _ _ _ h => h) (fun _ _ _ h => h) (fun _ _ _ h => h) (fun _ _ h => h) (fun _ _ h => h) (fun _ _ h => h)
      (fun _ _ _ _ _ h => h) (fun _ ih ks k h => ih ks k h) (fun n _ _ ks k h => one n ks k h) (fun n _ ks k h => one n ks k h) (fun n _ _ ks k h => one n ks k h) (fun n _ _ _ ks k h => one n ks k h)
      (fun _ ih ks k h => ih ks k h) (fun _ ih ks k h => ih ks k h) (fun _ _ ih ks k h => ih ks k h) (fun _ _ h => h) (fun v vs i1 i2 ks k h => i2 _ k (i1 ks k h)) vs
theorem reach_sub : ∀ (f i : Nat) (ks : List Nat), ∀ k ∈ ks, k ∈ reach M f i ks
  | 0, _, _, k, h => h
  | f + 1, i, ks, k, h => by
    unfold reach
    split
    · exact h
    · split
      · exact reach_sub f (i + 1) _ k (keysOf_sub.2 _ _ k h)
      · exact reach_sub f (i + 1) _ k h
theorem reach_loc : ∀ (f i : Nat) (ks : List Nat), Agree M N (reach M f i ks) → reach N f i ks = reach M f i ks
  | 0, _, _, _ => rfl
  | f + 1, i, ks, h => by
    unfold reach at h ⊢
    cases hk : ks[i]? with
    | none => rfl
    | some k =>
      rw [hk] at h
      simp only at h ⊢
      have hmem : k ∈ ks := List.mem_of_getElem? hk
      have hm : mget N k = mget M k := by
        refine h k ?_
        split
        · exact reach_sub f (i + 1) _ k (keysOf_sub.2 _ _ k hmem)
        · exact reach_sub f (i + 1) _ k hmem
      rw [hm]
      split at h
      · exact reach_loc f (i + 1) _ h
      · exact reach_loc f (i + 1) _ h
theorem subM_loc {ks : List Nat} : ∀ (l : List Nat) (i : Nat), Agree M N l → subM N ks l i = subM M ks l i
  | [], _, _ => rfl
  | k :: l, i, h => by
    unfold subM
    rw [h.hd, subM_loc l (i + 1) h.tl]
theorem callAv_loc {key : Nat} {C : Contract} {args : List AV} {e : Eff} (h : callAv M key C args = some e) (ha : Agree M N e.rd) : callAv N key C args = some e := by
  unfold callAv at h ⊢
  split at h
  · cases h
  · rename_i args' lent vc0 h1
    simp only at h
    split at h <;> (try (cases h; done))
    rename_i cargs cM h2 h3 h4 h5
    split at h
    · cases h
    · rename_i r hr
      split at h <;> (try (cases h; done))
      rename_i h6 h7
      cases h
      have hk := reach_loc 40 0 _ ha.r
      simp only [modeArgs_loc h1 ha.l, hk, h2, subM_loc _ _ ha.r, h3, h4, h5, hr, h6, h7, freeze_loc ha.l]
theorem aop_loc {key : Nat} {o : Op} {e : Eff} (h : aop T G env res M key o = some e) (ha : Agree M N e.rd) : aop T G env res N key o = some e := by
  unfold aop at h ⊢
  split at h
  · exact h
  · exact h
  · exact h
  · exact h
  · exact h
  · exact h
  · split at h <;> (try (cases h; done))
    rename_i h1
    split at h <;> (try (cases h; done))
    rename_i h2
    split at h <;> (try (cases h; done))
    rename_i h3
    split at h <;> (try (cases h; done))
    rename_i h4
    split at h <;> (try (cases h; done))
    rename_i h5
    split at h <;> (try (cases h; done))
    rename_i h6
    split at h <;> (try (cases h; done))
    rename_i h7 h8
    cases h
    simp only [h1, h2, h3, h4, ros_loc _ _ _ _ h5 ha, h6, h7, h8, freeze_loc ha]
  · split at h <;> (try (cases h; done))
    rename_i h1
    simp only [h1, load1_loc h ha]
  · split at h <;> (try (cases h; done))
    rename_i h1
    simp only [h1, store1_loc h ha]
  · exact h
  · exact h
  · exact h
  · exact convAv_loc h ha
  · exact h
  · exact h
  · split at h <;> (try (cases h; done))
    rename_i h1
    split at h <;> (try (cases h; done))
    rename_i h2
    exact sliceAv_loc h ha
  · exact h
  · exact h
  · split at h <;> (try (cases h; done))
    rename_i h1
    simp only [h1, indexAddrAv_loc h ha]
  · exact h
  · exact h
  · split at h
    · rename_i hc
      simp only [hc, builtinAv_loc h ha]
    · rename_i hc
      split at h <;> (try (cases h; done))
      rename_i h1
      split at h <;> (try (cases h; done))
      rename_i h2
      simp only [hc, h1, h2, callAv_loc h ha]
    · cases h
  · cases h
end
end Go.Am
