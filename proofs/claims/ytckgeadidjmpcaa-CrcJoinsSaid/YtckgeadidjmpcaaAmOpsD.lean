/- One operation: append of so many zeros. -/
import Derived.Test.YtckgeadidjmpcaaAmOpsC
namespace Go.Am
set_option linter.all false
set_option linter.deprecated false
section
variable {P : Program} {o : Oper} {a : Act} {w w' : World} {I I' : Nat → Prop} {σ : Sig} {M : MS} {key : Nat} {env : List AV} {T : TT}
theorem run_appendz_room (t tx ty e : TypeId) (i : TypeInfo) (z : Value) (ht : P.underlying t = some (.slice e)) (hx : P.underlying tx = some (.int .i64)) (hi : P.info? e = some i) (hz : i.zero = some z)
    (base : Option Addr) (sLen sCap n : Nat) (hn : (n : Int) ≤ 9223372036854775807) (h48 : n * i.bytes ≤ 281474976710656) (hroom : sLen + n ≤ sCap) (h0 : 0 < i.size) :
    (Builtin.append_ #[t, tx] ty #[.slice base sLen sCap, .int .i64 n]).run P w =
      (do if let some a := base then storeCells (a.add (sLen * i.size)) (Builtin.zeroCells z.cells n).toList
          pure (Value.slice base (sLen + n) sCap)).run P w := by
  have hw : IntKind.i64.wrap (n : Int) = n := by simp [IntKind.wrap, IntKind.signed, IntKind.bits]; omega
  have h1 : ¬ ((n : Int) < 0) := by omega
  have h2 : ¬ ((n : Int) * (i.bytes : Int) > 2 ^ 48) := by
    have : ((n : Int) * i.bytes) = ((n * i.bytes : Nat) : Int) := by simp
    rw [this]; omega
  have hti : (typeInfo e).run P w = .ok i w := by simp [typeInfo, hi]
  have hzv : (zeroValue e).run P w = .ok z w := by simp [zeroValue, typeInfo, hi, hz]
  have key : ∀ (w : World), ((if n * i.size = 0 then pure #[] else do pure (Builtin.zeroCells (← zeroValue e).cells n) : Sem (Array Value))).run P w = .ok (Builtin.zeroCells z.cells n) w := by
    intro w
    by_cases hn0 : n = 0
    · subst hn0
      rw [if_pos (Nat.zero_mul _)]
      simp [Builtin.zeroCells, Sem.run_pure]
    · have : ¬ (n * i.size = 0) := Nat.mul_ne_zero (by omega) (by omega)
      rw [if_neg this]
      simp [zeroValue, typeInfo, hi, hz]
  simp only [Builtin.append_, List.getElem?_toArray, List.getElem?_cons_zero, List.getElem?_cons_succ, Sem.run_bind, run_under ht, run_under hx, Result.andThen_ok, run_sizeOf_of hi, Sem.run_pure, asInt, asIntOf, hw, if_neg h1, hti, if_neg h2, if_true, Bool.not_true, Bool.false_eq_true, if_false, Int.toNat_natCast, if_pos hroom, key]
  cases base <;> rfl
theorem run_appendz_grow (t tx ty e : TypeId) (i : TypeInfo) (z : Value) (ht : P.underlying t = some (.slice e)) (hx : P.underlying tx = some (.int .i64)) (hi : P.info? e = some i) (hz : i.zero = some z)
    (base : Option Addr) (sLen sCap n : Nat) (olds : List Value) (hold : ∀ w' : World, w'.heap = w.heap → (Builtin.firstCells i.size sLen (.slice base sLen sCap)).run P w' = .ok olds.toArray w') (h48 : n * i.bytes ≤ 281474976710656) (hg : sCap < sLen + n) (h63 : ((sLen + n : Nat) : Int) ≤ 9223372036854775807) (hfit : Builtin.nextslicecap (sLen + n) sCap * i.bytes ≤ 281474976710656) (h0 : 0 < i.size) (hn0 : n ≠ 0) :
    (Builtin.append_ #[t, tx] ty #[.slice base sLen sCap, .int .i64 n]).run P w =
      .ok (.slice (some ⟨w.heap.size, 0, none⟩) (sLen + n) (grownCap w (sLen + n) sCap e))
        (w.drew.alloc (.cells (olds.toArray ++ Builtin.zeroCells z.cells n ++ Builtin.zeroCells z.cells (grownCap w (sLen + n) sCap e - (sLen + n))) e)) := by
  have hw : IntKind.i64.wrap (n : Int) = n := by simp [IntKind.wrap, IntKind.signed, IntKind.bits]; omega
  have h1 : ¬ ((n : Int) < 0) := by omega
  have h2 : ¬ (281474976710656 < (n : Int) * (i.bytes : Int)) := by
    have : ((n : Int) * i.bytes) = ((n * i.bytes : Nat) : Int) := by simp
    rw [this]; omega
  have hn : ¬ (sLen + n ≤ sCap) := by omega
  have h63' : ¬ (9223372036854775807 < ((sLen : Int) + (n : Int))) := by omega
  have h48' : ¬ (281474976710656 < Builtin.nextslicecap (sLen + n) sCap * i.bytes) := by omega
  have hfo := hold w.drew rfl
  have key : ∀ (w : World), ((if n * i.size = 0 then pure #[] else do pure (Builtin.zeroCells (← zeroValue e).cells n) : Sem (Array Value))).run P w = .ok (Builtin.zeroCells z.cells n) w := by
    intro w
    by_cases hn0 : n = 0
    · subst hn0
      rw [if_pos (Nat.zero_mul _)]
      simp [Builtin.zeroCells, Sem.run_pure]
    · have : ¬ (n * i.size = 0) := Nat.mul_ne_zero (by omega) (by omega)
      rw [if_neg this]
      simp [zeroValue, typeInfo, hi, hz]
  have hn0' : ¬ (n * i.size = 0) := Nat.mul_ne_zero hn0 (by omega)
  simp [Builtin.append_, run_underlying ht, run_underlying hx, sizeOf, typeInfo, zeroValue, hi, hz, hn, h63', h48', Question.forced, hfo, newRow, grownCap, asInt, asIntOf, hw, h1, h2, hn0']
theorem appendz_ok (hok : Ok w I σ M) (hfree : σ key = none) (hT : ∀ t i, T t = some i → TIok P t i) {t : Nat} {ti : TI} (ht : tget T t = some ti) {el esz eb : Nat} {esh : List Sh} (htd : ti.td = .slice el esz eb esh) {ei : TI} (hel : tget T el = some ei) {ds : List (Unit → D)} (h3 : encs esh ei.zero = some ds)
    {tx : Nat} (hx : P.underlying tx = some (.int .i64)) (ty : TypeId) {s : AV} {n : Unit → Int} {e : Eff} (h : appendZ M key esh eb ds s n = some e) (hvc : ∀ p ∈ e.vc, p ()) {u : Value} (hs : VR w I σ s u) :
    ∃ r w', (Builtin.append_ #[t, tx] ty #[u, .int .i64 (n ())]).run P w = .ok r w' ∧ Post w I σ M key e.val (mapply M e.upd) r w' := by
  obtain ⟨d, hu, hd, _⟩ := under_of hT ht
  rw [htd] at hd
  obtain ⟨rfl, hesh, hes0, inf, z, hinf, hisz, hib, hiz, hzs⟩ := sz_of_slice hd
  obtain ⟨inf2, z2, hinf2, hs2, hz2, hzs2, hzr⟩ := (hT el ei hel).info
  obtain rfl : inf = inf2 := by rw [hinf] at hinf2; cases hinf2; rfl
  obtain rfl : z = z2 := by rw [hiz] at hz2; cases hz2; rfl
  have hdl : DatL w I esh 0 (dall ds) z.cells.toList := by simpa using encs_ok [] h3 (hzr w I σ)
  unfold appendZ at h
  split at h <;> (try (cases h; done))
  rename_i s' k lo len heb
  have heb := Nat.le_of_ble_eq_true heb
  split at h <;> (try (cases h; done))
  rename_i nn e' xs hm
  split at h <;> (try (cases h; done))
  rename_i hsh
  have hsh := shEqs_ok hsh
  subst hsh
  simp only [Option.some.injEq] at h
  subst h
  have hlo : lo () = 0 := hvc (fun _ => lo () = 0) List.mem_cons_self
  have hlen : len () ≤ (xs ()).length := hvc (fun _ => len () ≤ (xs ()).length) (List.mem_cons_of_mem _ List.mem_cons_self)
  have hbg : 0 ≤ n () ∧ (len () : Int) + n () ≤ big := hvc (fun _ => 0 ≤ n () ∧ (len () : Int) + n () ≤ big) (List.mem_cons_of_mem _ (List.mem_cons_of_mem _ List.mem_cons_self))
  obtain ⟨m, hm'⟩ : ∃ m : Nat, n () = m := ⟨(n ()).toNat, by omega⟩
  rw [hm'] at hbg ⊢
  have hbig : len () + m ≤ big := by omega
  clear hbg
  have hnn : (n ()).toNat = m := by omega
  obtain ⟨q, hq, hr⟩ := ok_row hok (.inl hm)
  have hb2 : (len () + m) * inf.bytes ≤ 140737488355328 := by
    rw [hib]
    calc (len () + m) * eb ≤ 1099511627776 * 128 := Nat.mul_le_mul (by unfold big at hbig; omega) heb
      _ ≤ _ := by decide
  have hb3 : m * inf.bytes ≤ 281474976710656 := by
    have : m * inf.bytes ≤ (len () + m) * inf.bytes := Nat.mul_le_mul_right _ (by omega)
    omega
  have hml : len () + m ≤ maxLen := by unfold big at hbig; unfold maxLen; omega
  have hi0 : 0 < inf.size := by omega
  obtain ⟨cs, hcs⟩ : ∃ cs, cs = (Builtin.zeroCells z.cells m).toList := ⟨_, rfl⟩
  have hcs' : Builtin.zeroCells z.cells m = cs.toArray := by rw [hcs]
  have g4 : RowL w I e' (List.replicate m (dall ds)) cs := by
    have := RowL.rep hdl m
    rw [← range_rep _ _ (by omega)] at this
    rw [hcs]
    exact this
  have hcl : cs.length = m * e'.length := by have := g4.1; simpa using this
  simp only [mapply, hnn, Int.toNat_natCast]
  simp only [VR] at hs
  rw [hq] at hs
  rcases hr with ⟨p, rfl, cs0, ct, fz, hh, r1, r2, r3, r4, r5, r6, r7⟩ | ⟨rfl, e1, he0⟩
  · obtain ⟨off, cap, rfl, k1, k2, k3, k4⟩ := hs
    obtain ⟨olds, o1, o2⟩ := RowL.of (w := w) (I := I) (e := e') (b := p.b) (off := 0) (xs ()) fun i hi => by rw [Nat.zero_add, ← r3]; exact r7 i hi
    have o3 := o1.take (len ()) hlen
    have o4 : ((olds.take (len () * e'.length)) ++ cs).length = (len () + m) * e'.length := by
      rw [List.length_append, o3.1, hcl, List.length_take, Nat.min_eq_left hlen, Nat.add_mul]
    have o5 : RowL w I e' ((xs ()).take (len ()) ++ List.replicate m (dall ds)) (olds.take (len () * e'.length) ++ cs) := o3.append g4
    by_cases hroom : len () + m ≤ cap
    · obtain ⟨hren, hext⟩ := Ok.rename hok hm hq hfree
      have hoff : m = 0 ∨ off = 0 := by
        rcases k1 with k1 | k1
        · left; omega
        · right; rw [k1, hlo, Nat.zero_mul]
      have hones := g4.ones (by omega)
      have hfit : off + len () * inf.size + 0 + cs.length ≤ cs0.size ∨ m = 0 := by
        rcases hoff with h0 | h0
        · exact .inr h0
        · left
          have hcc : (len () + m) * p.sz ≤ p.cap * p.sz := Nat.mul_le_mul_right _ (by omega)
          rw [Nat.add_mul] at hcc
          rw [r2, h0, hcl, hisz, ← hesh, ← r3]
          omega
      obtain ⟨w', cs', st1, st2, st3, st4⟩ : ∃ w' cs', (storeCells ((⟨p.b, off, none⟩ : Addr).add (len () * inf.size)) cs).run P w = .ok () w' ∧ Turned w w' p.b ∧ w'.heap[p.b]? = some (.cells cs' ct fz) ∧ Splice cs0 (off + len () * inf.size) cs cs' := by
        rw [Addr.add_lit]
        rcases hfit with hfit | h0
        · have := run_storeCells_splice (P := P) p.b (off + len () * inf.size) cs 0 w cs0 ct fz hh r1 hfit hones
          simpa using this
        · have : cs = [] := List.eq_nil_of_length_eq_zero (by rw [hcl, h0]; simp)
          subst this
          exact ⟨w, cs0, rfl, .refl w _, hh, rfl, fun j => by rw [if_neg (by simp)]⟩
      refine ⟨.slice (some ⟨p.b, off, none⟩) (len () + m) cap, w', ?_, ?_⟩
      · rw [run_appendz_room t tx ty el inf z hu hx hinf hiz _ _ _ m (by unfold maxLen at hml; omega) hb3 hroom hi0]
        simp only [Sem.run_bind, ← hcs, st1, Result.andThen_ok, Sem.run_pure]
      · have ht1 : mget (mset (mdel M k) key (.row nn e' xs)) key = some (.row nn e' xs) := by rw [mget_mset, if_pos rfl]
        have := Post.turned (key := key) hren ht1 trivial (Sig.upd_same σ key (some p)) st2 (val := .ms key (fun _ => 0) (fun _ => len () + m)) (v := .slice (some ⟨p.b, off, none⟩) (len () + m) cap) (y := .row nn e' (fun _ => (xs ()).take (len ()) ++ List.replicate m (dall ds))) trivial ?_ ?_
        · rw [mset_mset] at this
          exact this.after' hext fun j => by
            by_cases h : j = key
            · exact .inr (by omega)
            · exact .inl (Sig.upd_other _ _ h)
        · refine ⟨cs', ct, fz, st3, st4.unfrozen r1, by rw [st4.1, r2], r3, r4, by rw [List.length_append, List.length_take, Nat.min_eq_left hlen, List.length_replicate]; omega, r6, ?_⟩
          have hIo : ∀ b, I b → w'.heap[b]? = w.heap[b]? := fun b hb => st2.other b (by rintro rfl; exact hok.sep _ ⟨k, _, p, hm, trivial, hq, rfl⟩ hb)
          rw [r3]
          refine (o5.keep hIo fun _ h => h).row fun j c hc => ?_
          rw [cell_of_row w' p.b j cs' ct fz st3, st4.2 j]
          have hlt := (List.getElem?_eq_some_iff.1 hc).1
          rw [o4] at hlt
          have hl1 : (olds.take (len () * e'.length)).length = len () * e'.length := by rw [o3.1, List.length_take, Nat.min_eq_left hlen]
          rw [hisz, ← hesh]
          by_cases hj : j < len () * e'.length
          · rw [List.getElem?_append_left (by omega), List.getElem?_take, if_pos hj] at hc
            have hold := o2 j c hc
            rw [Nat.zero_add, cell_of_row w p.b j cs0 ct fz hh] at hold
            rcases hoff with h0 | h0
            · have : cs = [] := List.eq_nil_of_length_eq_zero (by rw [hcl, h0]; simp)
              subst this
              rw [if_neg (by simp)]
              exact hold
            · rw [if_neg (by omega)]
              exact hold
          · rw [List.getElem?_append_right (by omega), hl1] at hc
            have hlc := (List.getElem?_eq_some_iff.1 hc).1
            rcases hoff with h0 | h0
            · exfalso
              rw [hcl, h0] at hlc
              simp at hlc
            · rw [h0, Nat.zero_add, if_pos (by omega)]
              exact hc
        · simp only [VR, Sig.upd_same, MsR]
          refine ⟨off, cap, rfl, ?_, by omega, by omega, k4⟩
          rcases k1 with k1 | k1
          · exact .inl k1
          · right; rw [k1, hlo]
    · have hold : ∀ w' : World, w'.heap = w.heap → (Builtin.firstCells inf.size (len ()) (.slice (some ⟨p.b, off, none⟩) (len ()) cap)).run P w' = .ok (olds.take (len () * e'.length)).toArray w' := fun w' hw' => by
        refine run_firstCells_some w' inf.size (len ()) ⟨p.b, off, none⟩ (len ()) cap _ (by rw [o3.1, List.length_take, Nat.min_eq_left hlen, hisz, hesh]) fun j v hv => ?_
        rw [List.getElem?_take] at hv
        split at hv
        · rename_i hj
          have hl0 : len () ≠ 0 := by rintro h0; rw [h0] at hj; simp at hj
          have hoff : off = 0 := by
            rcases k1 with k1 | k1
            · omega
            · rw [k1, hlo, Nat.zero_mul]
          rw [Addr.add_lit, hoff, cell_of_blk (w := w) (w' := w') (by rw [hw'])]
          exact o2 j v hv
        · cases hv
      have hrun := run_appendz_grow (P := P) (w := w) t tx ty el inf z hu hx hinf hiz (some ⟨p.b, off, none⟩) (len ()) cap m _ hold hb3 (by omega) (by unfold maxLen at hml; omega) (growslice_fits (by omega) hb2) hi0 (by omega)
      refine ⟨_, _, hrun, Post.sub (mdel_sub M k) ?_⟩
      have hge := grownCap_ge w (len () + m) cap el
      have hmore : ∀ x, More w (w.drew.alloc x) x := fun x => ⟨rfl, rfl, rfl, rfl⟩
      refine Post.alloc (hok.sub (mdel_sub M k)) hfree (hmore _) (cap := grownCap w (len () + m) cap el) (sz := e'.length) trivial ?_ ?_
      · rw [hcs']
        refine row_new (hmore _) hok.lt (by omega) o5 ?_ (fun j c hc => ?_) (by rw [List.length_append, List.length_take, Nat.min_eq_left hlen, List.length_replicate]; exact hge) (grownCap_le_maxLen w _ _ el hml) (by simp [unfrozen])
        · rw [Array.size_append, Array.size_append, size_zeroCells, List.size_toArray, List.size_toArray, ← List.length_append, o4, hzs, hesh, ← Nat.add_mul]
          congr 1; omega
        · rw [Array.getElem?_append_left (by rw [Array.size_append, List.size_toArray, List.size_toArray, ← List.length_append]; exact (List.getElem?_eq_some_iff.1 hc).1)]
          simpa using hc
      · simp only [VR, Sig.upd_same, MsR]
        exact ⟨0, _, rfl, .inr (by simp), by simp, hge, grownCap_le_maxLen w _ _ el hml⟩
  · -- a nil row
    obtain ⟨rfl, _, e3⟩ := hs
    have hl0 : len () = 0 := e3
    by_cases h0 : m = 0
    · refine ⟨.slice none 0 0, w, ?_, Post.sub (mdel_sub M k) ?_⟩
      · subst h0
        rw [run_appendz_room t tx ty el inf z hu hx hinf hiz _ _ _ 0 (by omega) (by omega) (by omega) hi0]
        rfl
      · obtain ⟨nn', rfl⟩ : ∃ x, x = nn := ⟨_, rfl⟩
        obtain ⟨p, hp, ho⟩ := hok.obj k _ hm
        rw [hq] at hp
        cases hp
        have hnn : nn' = false := ho.1
        subst hnn
        refine Post.nilrow (hok.sub (mdel_sub M k)) hfree ?_ (by omega) ?_
        · show (xs ()).take (len ()) ++ List.replicate m (dall ds) = []
          rw [hl0, h0]; rfl
        · simp only [VR, Sig.upd_same, MsR, true_and]; omega
    · have hold : ∀ w' : World, w'.heap = w.heap → (Builtin.firstCells inf.size 0 (.slice none 0 0)).run P w' = .ok ([] : List Value).toArray w' := fun w' _ => run_firstCells_none w' _ _ _ _
      have hrun := run_appendz_grow (P := P) (w := w) t tx ty el inf z hu hx hinf hiz none 0 0 m [] hold hb3 (by omega) (by unfold maxLen at hml; omega) (growslice_fits (by omega) (by rw [hl0] at hb2; exact hb2)) hi0 h0
      refine ⟨_, _, hrun, Post.sub (mdel_sub M k) ?_⟩
      have hge := grownCap_ge w (0 + m) 0 el
      have hmore : ∀ x, More w (w.drew.alloc x) x := fun x => ⟨rfl, rfl, rfl, rfl⟩
      have e4 : (xs ()).take (len ()) ++ List.replicate m (dall ds) = List.replicate m (dall ds) := by rw [hl0, List.take_zero, List.nil_append]
      have hml0 : 0 + m ≤ maxLen := by omega
      refine Post.alloc (hok.sub (mdel_sub M k)) hfree (hmore _) (cap := grownCap w (0 + m) 0 el) (sz := e'.length) trivial ?_ ?_
      · rw [hcs']
        refine row_new (hmore _) hok.lt (by omega) (by rw [e4]; exact g4) ?_ (fun j c hc => ?_) (by show ((xs ()).take (len ()) ++ List.replicate m (dall ds)).length ≤ _; rw [e4, List.length_replicate]; omega) (grownCap_le_maxLen w (0 + m) 0 el hml0) (by simp [unfrozen])
        · rw [Array.size_append, size_zeroCells, hzs, hesh]
          simp only [List.append_toArray, List.size_toArray, List.nil_append, hcl]
          rw [hesh, ← Nat.add_mul]
          congr 1; omega
        · have hc' : ((([] : List Value).toArray ++ cs.toArray : Array Value))[j]? = some c := by simpa using hc
          rw [Array.getElem?_append_left (Array.getElem?_eq_some_iff.1 hc').1]
          exact hc'
      · simp only [VR, Sig.upd_same, MsR, hl0]
        exact ⟨0, _, rfl, .inr (by simp), by simp, hge, grownCap_le_maxLen w (0 + m) 0 el hml0⟩
end
end Go.Am
