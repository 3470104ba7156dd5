/- One operation: new objects, conversions. -/
import Derived.Test.YtckgeadidjmpcaaAmOpsB
import Derived.Laws.IdiomStrings
namespace Go.Am
set_option linter.all false
set_option linter.deprecated false
section
variable {P : Program} {o : Oper} {a : Act} {w w' : World} {I I' : Nat → Prop} {σ : Sig} {M : MS} {key : Nat} {env : List AV} {T : TT}

theorem store1_ok (hok : Ok w I σ M) {t : Nat} {ti : TI} (hi : TIok P t ti) {x y : AV} {e : Eff} (h : store1 M ti x y = some e) (hvc : ∀ p ∈ e.vc, p ()) {u v : Value} (hu : VR w I σ y u) (hv : VR w I σ x v) :
    ∃ w', (Instr.storeAt t u v).run P w = .ok () w' ∧ Post w I σ M key e.val (mapply M e.upd) undef w' := by
  unfold store1 at h
  split at h <;> (try (cases h; done))
  · rename_i n off
    split at h <;> (try (cases h; done))
    rename_i cs hm
    split at h <;> (try (cases h; done))
    rename_i h1 h2 h3
    simp only [Option.some.injEq] at h
    subst h
    rw [llen_eq] at h1 h2
    simp only [mapply]
    exact storeObj_ok hok hi hm (Nat.le_of_ble_eq_true h1) (Nat.eq_of_beq_eq_true h2) h3 hu hv
  · rename_i n ix off
    split at h <;> (try (cases h; done))
    rename_i nn ee xs hm
    split at h <;> (try (cases h; done))
    rename_i cs lent vc hro
    split at h <;> (try (cases h; done))
    rename_i ds h2 h3 h4 h5
    rw [llen_eq] at h2
    have h2 := Nat.eq_of_beq_eq_true h2
    have h3 := Nat.eq_of_beq_eq_true h3
    have h5 : n ∉ lent := fun hn => by rw [(nmem_iff lent n).2 hn] at h5; cases h5
    split at h <;> (try (cases h; done))
    · rename_i q1 q2 q3
      have q1 := Nat.eq_of_beq_eq_true q1
      have q2 := Nat.eq_of_beq_eq_true q2
      have q3 := Nat.le_of_ble_eq_true q3
      simp only [Option.some.injEq] at h
      subst h q1
      rw [mapply_append]
      simp only [mapply]
      have hl := (encs_length h4).2
      exact storeElem_ok hok hi hm hro (fun p hp => hvc p (List.mem_cons_of_mem _ hp)) h2 h3 h4 h5 q3 (hvc (fun _ => ix () < (xs ()).length) List.mem_cons_self) (fun k hk => by rw [if_pos (by omega)]; rfl) hu hv
    · rename_i q3 _
      have q3 := Nat.le_of_ble_eq_true q3
      simp only [Option.some.injEq] at h
      subst h
      rw [mapply_append]
      simp only [mapply]
      have hl := (encs_length h4).2
      have hlen : (lk (xs ()) (ix ())).length = ee.length := hvc (fun _ => (lk (xs ()) (ix ())).length = ee.length) (List.mem_cons_of_mem _ List.mem_cons_self)
      refine storeElem_ok hok hi hm hro (fun p hp => hvc p (List.mem_cons_of_mem _ (List.mem_cons_of_mem _ hp))) h2 h3 h4 h5 q3 (hvc (fun _ => ix () < (xs ()).length) List.mem_cons_self) (fun k hk => ?_) hu hv
      rw [setCells_lk]
      have : (dall ds).length = ti.size := by simp [dall, hl, h3]
      rw [this, hlen]
      by_cases hh : off ≤ k ∧ k < off + ti.size
      · rw [if_pos hh, if_pos ⟨hh.1, hh.2, hk⟩]
      · rw [if_neg hh, if_neg (fun q => hh ⟨q.1, q.2.1⟩)]
theorem alloc_ok (hok : Ok w I σ M) (hfree : σ key = none) {t : Nat} {ti : TI} (hi : TIok P t ti) : ∃ r w', (Instr.alloc t true (.tuple #[])).run P w = .ok r w' ∧ Post w I σ M key (.mp key 0) (mset M key (.obj ti.zero)) r w' := by
  obtain ⟨inf, z, hinf, hs, hz, hzs, hzr⟩ := hi.info
  refine ⟨.pointer (some ⟨w.heap.size, 0, none⟩), w.alloc (.cells z.cells t), ?_, ?_⟩
  · simp [Instr.alloc, zeroValue, typeInfo, hinf, hz, newVar, newRow]
  · refine Post.alloc hok hfree (.alloc w _) (cap := 1) (sz := 1) trivial ⟨z.cells, t, (0, 0), (More.alloc w _).new, by simp [unfrozen], hzr _ _ _⟩ ?_
    simp only [VR, Sig.upd_same, PtR]
theorem box_ok (hok : Ok w I σ M) (hfree : σ key = none) {t : Nat} {x : AV} {v : Value} (h3 : plains (cellsOf x) = true) (hv : VR w I σ x v) : ∃ r w', (Instr.box t v).run P w = .ok r w' ∧ Post w I σ M key (.mp key 0) (mset M key (.obj (cellsOf x))) r w' := by
  refine ⟨.pointer (some ⟨w.heap.size, 0, none⟩), w.alloc (.cells v.cells t), ?_, ?_⟩
  · simp [Instr.box, newVar, newRow]
  · have hsig : ∀ k p, σ k = some p → σ.upd key (some ⟨w.heap.size, 1, 1⟩) k = some p := fun k p h => by
      rw [Sig.upd_other _ _ (by rintro rfl; rw [hfree] at h; cases h)]; exact h
    have K : Keep w I σ (w.alloc (.cells v.cells t)) I (σ.upd key (some ⟨w.heap.size, 1, 1⟩)) := ⟨fun b hb => (More.alloc w _).old (hok.lt b hb), fun _ h => h, hsig⟩
    refine Post.alloc hok hfree (.alloc w _) (cap := 1) (sz := 1) trivial ⟨v.cells, t, (0, 0), (More.alloc w _).new, by simp [unfrozen], VRs.keep K _ _ (cellsOf_ok h3 hv).1⟩ ?_
    simp only [VR, Sig.upd_same, PtR]
theorem fget_places (sz : Nat) : ∀ (n i k off ft s : Nat), fget (places sz i n) k = some (off, ft, s) → off = (i + k) * sz ∧ s = sz
  | 0, i, k, off, ft, s, h => by simp [places, fget] at h
  | n + 1, i, 0, off, ft, s, h => by
    simp only [places, fget, Option.some.injEq, Prod.mk.injEq] at h
    obtain ⟨rfl, _, rfl⟩ := h
    exact ⟨rfl, rfl⟩
  | n + 1, i, k + 1, off, ft, s, h => by
    simp only [places, fget] at h
    have := fget_places sz n (i + 1) k off ft s h
    rw [this.1, this.2]
    exact ⟨by congr 1; omega, rfl⟩
theorem mapM_sizes : ∀ (fs : List (Nat × Nat × Nat)) (gs : List Field), FsR P fs gs → fs.length = gs.length → (gs.mapM (fun (f : Field) => (do pure (f.offset, ← sizeOf f.type) : Sem (Nat × Nat)))).run P w = .ok (fs.map fun f => (f.1, f.2.2)) w
  | [], [], _, _ => rfl
  | [], _ :: _, _, h => by simp at h
  | _ :: _, [], _, h => by simp at h
  | (off, ft, sz) :: fs, g :: gs, h, hl => by
    obtain ⟨rfl, rfl, ⟨inf, hinf, hsz⟩, h⟩ := h
    have ih := mapM_sizes fs gs h (by simpa using hl)
    simp only [List.mapM_cons, Sem.run_bind, run_sizeOf_of hinf, Result.andThen_ok, Sem.run_pure, ih, hsz, List.map_cons]
theorem build_ok (hT : ∀ t i, T t = some i → TIok P t i) {t : Nat} {ti : TI} (ht : tget T t = some ti) {fs : List (Nat × Nat × Nat)} (hfs : (∃ c, ti.td = .struct fs c) ∨ ∃ n el sz, ti.td = .array n el sz ∧ fs = places sz 0 n) {ps : List (Nat × AV)} {qs : List (Nat × Value)} {cs : List AV}
    (h : buildAv fs ti.zero ps = some cs) (hl : ps.length = qs.length) (hps : ∀ (j i : Nat) (v : AV), ps[j]? = some (i, v) → ∃ u, qs[j]? = some (i, u) ∧ VR w I σ v u) :
    ∃ r, (Instr.build t qs.toArray).run P w = .ok r w ∧ VR w I σ (.agg cs) r := by
  obtain ⟨d, hu, hd, _⟩ := under_of hT ht
  obtain ⟨inf, z, hinf, hs, hz, hzs, hzr⟩ := (hT t ti ht).info
  rcases hfs with ⟨c, htd⟩ | ⟨n, el, sz, htd, rfl⟩ <;> rw [htd] at hd
  · obtain ⟨fields, rfl, hf, hlen, _⟩ := hd
    obtain ⟨us', g1, g2⟩ := fill_ok (w := w) (I := I) (σ := σ) (fun i => (fs.map fun f => (f.1, f.2.2))[i]?) fs (fun i off ft s hf' => by
      have : ∀ (fs : List (Nat × Nat × Nat)) (i : Nat), fget fs i = some (off, ft, s) → fs[i]? = some (off, ft, s) := by
        intro fs
        induction fs with
        | nil => intro i h; simp [fget] at h
        | cons f fs ih =>
          intro i h
          cases i with
          | zero => simpa [fget] using h
          | succ i => simpa using ih i (by simpa [fget] using h)
      simp [this fs i hf']) ps qs ti.zero cs z.cells h hl hps (hzr _ _ _)
    refine ⟨.agg us', ?_, by simp only [VR]; exact ⟨us', rfl, g2⟩⟩
    have hm := mapM_sizes (P := P) (w := w) fs fields.toList hf (by simpa using hlen)
    simp only [Instr.build, Sem.run_bind, zeroValue, typeInfo, run_program, Result.andThen_ok, hinf, Sem.run_pure, hz, run_under hu, Array.mapM_eq_mapM_toList, Sem.run_map, hm]
    simp only [List.getElem?_toArray, g1]
    rfl
  · obtain ⟨rfl, inf', hinf', hsz⟩ := hd
    obtain ⟨us', g1, g2⟩ := fill_ok (w := w) (I := I) (σ := σ) (fun i => some (i * sz, sz)) (places sz 0 n) (fun i off ft s hf => by
      obtain ⟨rfl, rfl⟩ := fget_places sz n 0 i off ft s hf
      simp) ps qs ti.zero cs z.cells h hl hps (hzr _ _ _)
    refine ⟨.agg us', ?_, by simp only [VR]; exact ⟨us', rfl, g2⟩⟩
    simp [Instr.build, zeroValue, typeInfo, hinf, hz, run_under hu, run_sizeOf_of hinf', hsz, g1]
theorem flat_rep_get (us : List Value) (h0 : 0 < us.length) : ∀ (n j : Nat), ((List.replicate n us).flatten)[j]? = if j < n * us.length then us[j % us.length]? else none
  | 0, j => by simp
  | n + 1, j => by
    rw [List.replicate_succ, List.flatten_cons]
    by_cases h : j < us.length
    · rw [List.getElem?_append_left h, if_pos (by rw [Nat.succ_mul]; omega), Nat.mod_eq_of_lt h]
    · rw [List.getElem?_append_right (by omega), flat_rep_get us h0 n (j - us.length)]
      rw [Nat.succ_mul, ← Nat.mod_eq_sub_mod (by omega)]
      by_cases h2 : j - us.length < n * us.length
      · rw [if_pos h2, if_pos (by omega)]
      · rw [if_neg h2, if_neg (by omega)]
theorem range_rep (zs : Array Value) (n : Nat) (h0 : 0 < zs.size) : ((Array.range (n * zs.size)).map (zs[· % zs.size]!)).toList = (List.replicate n zs.toList).flatten := by
  refine List.ext_getElem? fun j => ?_
  rw [flat_rep_get _ (by simpa using h0)]
  simp only [Array.length_toList, Array.toList_map, Array.toList_range, List.getElem?_map, List.getElem?_range']
  by_cases h : j < n * zs.size
  · have hm : j % zs.size < zs.size := Nat.mod_lt _ h0
    rw [if_pos h, List.getElem?_range h]
    simp [hm]
  · rw [if_neg h, List.getElem?_eq_none (by simp; omega)]
    rfl
theorem VRs.rep : ∀ {zs : List AV} {us : List Value} (n : Nat), VRs w I σ zs us → VRs w I σ (Am.rep zs n) (List.replicate n us).flatten
  | zs, us, 0, _ => by simp [Am.rep, VRs]
  | zs, us, n + 1, h => by
    rw [Am.rep, lapp_eq, List.replicate_succ, List.flatten_cons]
    exact h.append (VRs.rep n h)
theorem RowL.rep {e : List Sh} {ds : List D} {us : List Value} (h : DatL w I e 0 ds us) : ∀ n, RowL w I e (List.replicate n ds) (List.replicate n us).flatten
  | 0 => by simpa using RowL.nil e
  | n + 1 => by
    have h1 : RowL w I e [ds] us := by simpa using (RowL.nil (w := w) (I := I) e).snoc h
    rw [List.replicate_succ, List.replicate_succ, List.flatten_cons]
    exact RowL.append (xs := [ds]) h1 (RowL.rep h n)
theorem encs_append : ∀ {e1 e2 : List Sh} {vs : List AV} {ds : List (Unit → D)}, encs (e1 ++ e2) vs = some ds → encs e1 (vs.take e1.length) = some (ds.take e1.length) ∧ encs e2 (vs.drop e1.length) = some (ds.drop e1.length)
  | [], e2, vs, ds, h => by simpa [encs] using h
  | s :: ss, e2, [], ds, h => by simp [encs] at h
  | s :: ss, e2, v :: vs, ds, h => by
    simp only [List.cons_append, encs] at h
    split at h <;> (try (cases h; done))
    rename_i d ds' h1 h2
    simp only [Option.some.injEq] at h
    subst h
    obtain ⟨g1, g2⟩ := encs_append h2
    simp [encs, h1, g1, g2]
theorem chunk_ok {esh : List Sh} {sz : Nat} (hsz : esh.length = sz) : ∀ (n : Nat) {vs : List AV} {ds : List (Unit → D)} {us : List Value}, encs (repSh esh n) vs = some ds → VRs w I σ vs us → RowL w I esh ((chunk sz n ds).map dall) us
  | 0, vs, ds, us, h, hv => by
    have := (encs_length h).1
    simp only [repSh, List.length_nil] at this
    have := VRs.length hv
    have : us = [] := List.eq_nil_of_length_eq_zero (by omega)
    subst this
    exact RowL.nil _
  | n + 1, vs, ds, us, h, hv => by
    obtain ⟨h1, h2⟩ := encs_append h
    rw [hsz] at h1 h2
    have ih := chunk_ok hsz n h2 (hv.drop sz)
    have hd := encs_ok (w := w) (I := I) (σ := σ) [] h1 (hv.take sz)
    have h3 : RowL w I esh [dall (ds.take sz)] (us.take sz) := by simpa using (RowL.nil (w := w) (I := I) esh).snoc hd
    have := RowL.append h3 ih
    simpa [chunk] using this
theorem buildSlice_ok (hok : Ok w I σ M) (hfree : σ key = none) (hT : ∀ t i, T t = some i → TIok P t i) {t : Nat} {ti : TI} (ht : tget T t = some ti) {el sz eb : Nat} {esh : List Sh} (htd : ti.td = .slice el sz eb esh) {ei : TI} (hel : tget T el = some ei) {len : Nat} {ps : List (Nat × AV)} {qs : List (Nat × Value)} {cs cs' : List AV}
    {lent : List Nat} {vc : List (Unit → Prop)} {ds : List (Unit → D)} (h1 : buildAv (places sz 0 len) (rep ei.zero len) ps = some cs) (h2 : ros M cs = some (cs', lent, vc)) (hvc : ∀ p ∈ vc, p ()) (h3 : encs (repSh esh len) cs' = some ds) (h4 : len * sz ≤ 16777216)
    (hl : ps.length = qs.length) (hps : ∀ (j i : Nat) (v : AV), ps[j]? = some (i, v) → ∃ u, qs[j]? = some (i, u) ∧ VR w I σ v u) :
    ∃ r w', (Instr.buildSlice t len qs.toArray).run P w = .ok r w' ∧ Post w I σ M key (.ms key (fun _ => 0) (fun _ => len)) (mset (mapply M (freeze M lent)) key (.row true esh (fun _ => (chunk sz len ds).map dall))) r w' := by
  obtain ⟨d, hu, hd, _⟩ := under_of hT ht
  rw [htd] at hd
  obtain ⟨rfl, hesh, hes0, inf, z, hinf, hisz, hib, hiz, hzs⟩ := sz_of_slice hd
  obtain ⟨inf2, z2, hinf2, hs2, hz2, hzs2, hzr⟩ := (hT el ei hel).info
  obtain rfl : inf = inf2 := by rw [hinf] at hinf2; cases hinf2; rfl
  obtain rfl : z = z2 := by rw [hiz] at hz2; cases hz2; rfl
  have hr0 : VRs w I σ (rep ei.zero len) ((Array.range (len * z.cells.size)).map (z.cells[· % z.cells.size]!)).toList := by
    rw [range_rep _ _ (by omega)]
    exact VRs.rep len (hzr w I σ)
  obtain ⟨us', g1, g2⟩ := fill_ok (w := w) (I := I) (σ := σ) (fun i => some (i * sz, sz)) (places sz 0 len) (fun i off ft s hf => by
      obtain ⟨rfl, rfl⟩ := fget_places sz len 0 i off ft s hf
      simp) ps qs _ cs _ h1 hl hps hr0
  obtain ⟨g3, g4⟩ := ros_ok hok _ _ _ _ _ h2 hvc g2
  obtain ⟨hok1, hext, _⟩ := hok.freeze g4
  have hrow := chunk_ok hesh len h3 g3
  have hlen : ((chunk sz len ds).map dall).length = len := by
    have : ∀ (n : Nat) (l : List (Unit → D)), (chunk sz n l).length = n := by
      intro n
      induction n with
      | zero => intro l; rfl
      | succ n ih => intro l; simp [chunk, ih]
    simp [this]
  refine ⟨.slice (some ⟨w.heap.size, 0, none⟩) len len, w.alloc (.cells us' el), ?_, ?_⟩
  · have hzv : (zeroValue el).run P w = .ok z w := by simp [zeroValue, typeInfo, hinf, hiz]
    have harr : ∀ (zz : Array Value), (len * sz = 0 ∨ zz = z.cells) → (Array.range (len * sz)).map (zz[· % zz.size]!) = (Array.range (len * z.cells.size)).map (z.cells[· % z.cells.size]!) := by
      intro zz h
      rcases h with h | rfl
      · rw [hzs, h]; simp
      · rw [hzs]
    by_cases h : len * sz = 0
    · simp only [Instr.buildSlice, Sem.run_bind, run_under hu, Result.andThen_ok, run_sizeOf_of hinf, hisz, if_neg (show ¬ len * sz > 2 ^ 24 by omega), if_pos h, Sem.run_pure]
      rw [harr _ (.inl h)]
      simp only [g1]
      rfl
    · simp only [Instr.buildSlice, Sem.run_bind, run_under hu, Result.andThen_ok, run_sizeOf_of hinf, hisz, if_neg (show ¬ len * sz > 2 ^ 24 by omega), if_neg h, hzv, Sem.run_pure]
      rw [harr _ (.inr rfl)]
      simp only [g1]
      rfl
  · refine Post.after' hext (fun _ => .inl rfl) (Post.alloc hok1 hfree (.alloc w _) (cap := len) (sz := esh.length) trivial ?_ ?_)
    · refine row_new (.alloc w _) hok1.lt (by omega) hrow ?_ (fun j c hc => by simpa using hc) (by rw [hlen]; exact Nat.le_refl _) ?_ (by simp [unfrozen])
      · have := hrow.1
        rw [hlen] at this
        simpa using this
      · have : len * 1 ≤ len * sz := Nat.mul_le_mul_left _ (by omega)
        unfold maxLen; omega
    · simp only [VR, Sig.upd_same, MsR]
      have : len * 1 ≤ len * sz := Nat.mul_le_mul_left _ (by omega)
      exact ⟨0, len, rfl, .inr (by simp), by simp, Nat.le_refl _, by unfold maxLen; omega⟩
theorem makeSlice_ok (hok : Ok w I σ M) (hfree : σ key = none) (hT : ∀ t i, T t = some i → TIok P t i) {t : Nat} {ti : TI} (ht : tget T t = some ti) {el sz eb : Nat} {esh : List Sh} (htd : ti.td = .slice el sz eb esh) {ei : TI} (hel : tget T el = some ei) (heb : eb ≤ 128) {ds : List (Unit → D)} (h3 : encs esh ei.zero = some ds) {n m : Int}
    (hnm : n = m) (h0 : 0 ≤ n) (hb : n ≤ big) : ∃ r w', (Instr.makeSlice t (.int .i64 n) (.int .i64 m)).run P w = .ok r w' ∧ Post w I σ M key (.ms key (fun _ => 0) (fun _ => n.toNat)) (mset M key (.row true esh (fun _ => List.replicate n.toNat (dall ds)))) r w' := by
  subst hnm
  obtain ⟨d, hu, hd, _⟩ := under_of hT ht
  rw [htd] at hd
  obtain ⟨rfl, hesh, hes0, inf, z, hinf, hisz, hib, hiz, hzs⟩ := sz_of_slice hd
  obtain ⟨inf2, z2, hinf2, hs2, hz2, hzs2, hzr⟩ := (hT el ei hel).info
  obtain rfl : inf = inf2 := by rw [hinf] at hinf2; cases hinf2; rfl
  obtain rfl : z = z2 := by rw [hiz] at hz2; cases hz2; rfl
  have hdl : DatL w I esh 0 (dall ds) z.cells.toList := by simpa using encs_ok [] h3 (hzr w I σ)
  obtain ⟨k, rfl⟩ : ∃ k : Nat, n = k := ⟨n.toNat, by omega⟩
  have hbig : k ≤ 1099511627776 := by unfold big at hb; omega
  have hw : IntKind.i64.wrap (k : Int) = k := by
    simp [IntKind.wrap, IntKind.signed, IntKind.bits]; omega
  have hbytes : eb * k ≤ 140737488355328 := by
    calc eb * k ≤ 128 * 1099511627776 := Nat.mul_le_mul heb hbig
      _ ≤ _ := by decide
  refine ⟨.slice (some ⟨w.heap.size, 0, none⟩) k k, w.alloc (.cells ((Array.range (k * z.cells.size)).map (z.cells[· % z.cells.size]!)) el), ?_, ?_⟩
  · have hzv : (zeroValue el).run P w = .ok z w := by simp [zeroValue, typeInfo, hinf, hiz]
    have harr : ∀ (zz : Array Value), (k * sz = 0 ∨ zz = z.cells) → (Array.range (k * sz)).map (zz[· % zz.size]!) = (Array.range (k * z.cells.size)).map (z.cells[· % z.cells.size]!) := by
      intro zz h
      rcases h with h | rfl
      · rw [hzs, h]; simp
      · rw [hzs]
    have hti : (typeInfo el).run P w = .ok inf w := by simp [typeInfo, hinf]
    have hnl : ¬ ((((k : Int) < 0 || (inf.bytes : Int) * k > 2 ^ 48) || (k : Int) < 0 || (k : Int) > k) = true) := by
      have h1 : ¬ ((k : Int) < 0) := by omega
      have h2 : ¬ ((inf.bytes : Int) * k > 2 ^ 48) := by
        rw [hib]
        have : ((eb : Int) * k) = ((eb * k : Nat) : Int) := by simp
        rw [this]; omega
      simp only [Bool.or_eq_true, decide_eq_true_eq, not_or]
      exact ⟨⟨⟨h1, h2⟩, h1⟩, by omega⟩
    by_cases h : k * sz = 0
    · simp only [Instr.makeSlice, Sem.run_bind, run_under hu, Result.andThen_ok, asInt, asIntOf, Sem.run_pure, hti, hw, if_neg hnl, run_askRoom, Int.toNat_natCast, run_sizeOf_of hinf, hisz, if_pos h]
      rw [harr _ (.inl h)]
      rfl
    · simp only [Instr.makeSlice, Sem.run_bind, run_under hu, Result.andThen_ok, asInt, asIntOf, Sem.run_pure, hti, hw, if_neg hnl, run_askRoom, Int.toNat_natCast, run_sizeOf_of hinf, hisz, if_neg h, hzv]
      rw [harr _ (.inr rfl)]
      rfl
  · refine Post.alloc hok hfree (.alloc w _) (cap := k) (sz := esh.length) trivial ?_ ?_
    · refine row_new (.alloc w _) hok.lt (by omega) (RowL.rep hdl k) ?_ (fun j c hc => ?_) (by simp) (by unfold maxLen; omega) (by simp [unfrozen])
      · simp [hzs, hesh]
      · rw [← range_rep _ _ (by omega)] at hc
        rwa [Array.getElem?_toList] at hc
    · simp only [VR, Sig.upd_same, MsR, Int.toNat_natCast]
      exact ⟨0, k, rfl, .inr (by simp), by simp, Nat.le_refl _, by unfold maxLen; omega⟩
theorem frozen_world {b : Nat} {cs : Array Value} {t : TypeId} {fz : Nat × Nat} (hh : w.heap[b]? = some (.cells cs t fz)) (hf : unfrozen cs fz) :
    ∃ fz', Turned w (w.freeze ⟨b, cs.size, none⟩ 1) b ∧ (w.freeze ⟨b, cs.size, none⟩ 1).heap[b]? = some (.cells cs t fz') ∧ unfrozen cs fz' := by
  obtain ⟨lo, hi⟩ := fz
  refine ⟨if lo == hi then (cs.size, cs.size + 1) else (min lo cs.size, max hi (cs.size + 1)), ⟨rfl, rfl, rfl, by simp [World.freeze], fun k hk => ?_⟩, ?_, ?_⟩
  · simp only [World.freeze, Nat.one_ne_zero, if_false, Array.getElem?_modify]
    rw [if_neg (by omega)]
  · simp [World.freeze, Array.getElem?_modify, hh]
  · unfold unfrozen at *
    simp only at hf
    split
    · exact .inr (Nat.le_refl _)
    · rename_i hne
      simp only [beq_iff_eq] at hne
      simp only
      omega
theorem u8_of {T : TT} (hT : ∀ t i, T t = some i → TIok P t i) {el s : Nat} {g : Bool} {z : List AV} (h : tget T el = some ⟨s, g, z, .int .u8⟩) : P.underlying el = some (.int .u8) := by
  obtain ⟨d, hu, hd, _⟩ := under_of hT h
  simp only [TDok] at hd
  rw [hu, hd]
theorem toInt_byte (b : UInt8) : (wfB .u8 (b.toNat : Int)) = true := by
  rw [wf_iff]
  have := b.toNat_lt
  simp [IntKind.min, IntKind.max, IntKind.signed, IntKind.bits]
  omega
theorem conv_ok (hok : Ok w I σ M) (hfree : σ key = none) (hT : ∀ t i, T t = some i → TIok P t i) {src dst : Nat} {x : AV} {e : Eff} (h : convAv M key T src dst x = some e) (hvc : ∀ p ∈ e.vc, p ()) {u : Value} (hx : VR w I σ x u) :
    ∃ r w', (convert src dst u).run P w = .ok r w' ∧ Post w I σ M key e.val (mapply M e.upd) r w' := by
  unfold convAv at h
  split at h <;> (try (cases h; done))
  rename_i si di hs hd
  obtain ⟨sd, hus, hsd, _⟩ := under_of hT hs
  obtain ⟨dd, hud, hdd, _⟩ := under_of hT hd
  split at h <;> (try (cases h; done)) <;> rw [‹di.td = _›] at hdd
  · rename_i k k' n _
    simp only [Eff.pure, Option.some.injEq] at h
    subst h
    simp only [VR] at hx
    obtain ⟨rfl, _⟩ := hx
    simp only [TDok] at hdd
    subst hdd
    refine ⟨_, w, ?_, .same hok (v := .int k (k.wrap (n ()))) (by simp only [VR, true_and]; exact wrap_wf _ _)⟩
    simp only [convert, Sem.run_bind, run_under hus, run_under hud, Result.andThen_ok]
    rfl
  · rename_i s _
    simp only [Eff.pure, Option.some.injEq] at h
    subst h
    have hx' := hx
    simp only [VR] at hx
    obtain ⟨t, rfl, e1, e2⟩ := hx
    simp only [TDok] at hdd
    subst hdd
    refine ⟨.string t, w, ?_, .same hok hx'⟩
    simp only [convert, Sem.run_bind, run_under hus, run_under hud, Result.andThen_ok]
    rfl
  · rename_i el s _
    split at h <;> (try (cases h; done))
    rename_i hstd hel
    rw [hstd] at hsd
    simp only [TDok] at hsd
    subst hsd
    obtain ⟨rfl, _⟩ := sz_of_slice hdd
    simp only [Option.some.injEq] at h
    subst h
    have hb : (s ()).length ≤ big := hvc (fun _ => (s ()).length ≤ big) (List.mem_singleton.2 rfl)
    simp only [VR] at hx
    obtain ⟨t, rfl, e1, e2⟩ := hx
    have hrun := run_bytes_of_string (P := P) w src dst el t hus hud (u8_of hT hel)
    have hge := grownCap_ge w t.size 0 el
    have hcm := grownCap_le_maxLen w t.size 0 el e2
    have hsz : (bytesRow t (grownCap w t.size 0 el)).size = grownCap w t.size 0 el := by
      simp only [bytesRow, Array.size_append, Array.size_map, Array.size_replicate]
      have : t.data.size = t.size := rfl
      omega
    refine ⟨_, _, hrun, ?_⟩
    simp only [mapply]
    have hmore : More w (w.drew.alloc (.cells (bytesRow t (grownCap w t.size 0 el)) el ((bytesRow t (grownCap w t.size 0 el)).size, (bytesRow t (grownCap w t.size 0 el)).size + 1))) (.cells (bytesRow t (grownCap w t.size 0 el)) el ((bytesRow t (grownCap w t.size 0 el)).size, (bytesRow t (grownCap w t.size 0 el)).size + 1)) := ⟨rfl, rfl, rfl, rfl⟩
    have hln : (s ()).length = t.size := by rw [← e1, ← size_of_data]
    refine Post.alloc hok hfree hmore (cap := grownCap w t.size 0 el) (sz := [Sh.int .u8].length) trivial ?_ ?_
    · have hrow : RowL w I [.int .u8] ((s ()).map fun b => [D.int b.toNat]) ((s ()).map fun b => Value.int .u8 b.toNat) := by
        refine ⟨by simp, fun i hi => ?_⟩
        simp only [List.length_map] at hi
        have e3 : lk ((s ()).map fun b => [D.int b.toNat]) i = [D.int (s ())[i].toNat] := by simp [lk, List.getD, List.getElem?_eq_getElem hi]
        rw [e3]
        have e4 : (((s ()).map fun b => Value.int .u8 b.toNat).drop (i * [Sh.int IntKind.u8].length)).take [Sh.int IntKind.u8].length = [Value.int .u8 (s ())[i].toNat] := by
          refine List.ext_getElem? fun j => ?_
          cases j with
          | zero => simp [List.getElem?_eq_getElem hi]
          | succ j => simp [List.getElem?_take]
        rw [e4]
        exact ⟨_, _, rfl, ⟨rfl, toInt_byte _⟩, rfl⟩
      refine row_new hmore hok.lt (by simp) hrow (by rw [hsz]; simp) (fun j c hc => ?_) (by simp only [List.length_map]; omega) hcm (.inr (Nat.le_refl _))
      rw [List.getElem?_map, ← e1] at hc
      have hj : j < t.data.size := by
        rw [Option.map_eq_some_iff] at hc
        obtain ⟨y, hy, _⟩ := hc
        simpa using (List.getElem?_eq_some_iff.1 hy).1
      rw [bytesRow_at t _ j hj]
      rw [Array.getElem?_toList, Array.getElem?_eq_getElem hj] at hc
      simpa using hc
    · simp only [VR, Sig.upd_same, MsR, hln]
      exact ⟨0, _, rfl, .inr (by simp), by simp, hge, hcm⟩
  · split at h <;> (try (cases h; done))
    rename_i hstd
    split at h <;> (try (cases h; done))
    rename_i hel
    rw [hstd] at hsd
    obtain ⟨rfl, _⟩ := sz_of_slice hsd
    simp only [TDok] at hdd
    subst hdd
    simp only [Eff.pure, Option.some.injEq] at h
    subst h
    simp only [VR] at hx
    subst hx
    refine ⟨.string .empty, w, ?_, .same hok (by simp only [VR]; exact ⟨_, rfl, rfl, Nat.zero_le _⟩)⟩
    rw [run_convert_bytes_string w src dst _ none 0 0 hus (u8_of hT hel) hud]
    rfl
  · split at h <;> (try (cases h; done))
    rename_i hstd
    split at h <;> (try (cases h; done))
    rename_i xs r vc hel hels
    rw [hstd] at hsd
    obtain ⟨rfl, _⟩ := sz_of_slice hsd
    simp only [TDok] at hdd
    subst hdd
    simp only [Option.some.injEq] at h
    subst h
    obtain ⟨ad, len, cap, cs, rfl, g1, g2, g3, g4, g5⟩ := elems_ok hok hels hvc hx
    have hcs : ∀ i, i < (xs ()).length → cs[i]? = some (.int .u8 (lk (lk (xs ()) i) 0).toInt) ∧ wfB .u8 (lk (lk (xs ()) i) 0).toInt = true := by
      intro i hi
      obtain ⟨u, cs', e1, ⟨rfl, e2⟩, e3⟩ := g4.2 i hi
      refine ⟨?_, e2⟩
      have : ((cs.drop (i * [Sh.int IntKind.u8].length)).take [Sh.int IntKind.u8].length)[0]? = some (.int .u8 (lk (lk (xs ()) i) 0).toInt) := by rw [e1]; rfl
      simpa using this
    have hbs : ∀ i, i < (xs ()).length → (UInt8.ofNat (lk (lk (xs ()) i) 0).toInt.toNat).toNat = (lk (lk (xs ()) i) 0).toInt := by
      intro i hi
      have := (wf_iff _ _).1 (hcs i hi).2
      simp [IntKind.min, IntKind.max, IntKind.signed, IntKind.bits] at this
      simp
      omega
    refine ⟨.string ⟨((xs ()).map fun c => UInt8.ofNat (lk c 0).toInt.toNat).toArray⟩, w, ?_, .same hok (by
      simp only [VR]
      refine ⟨_, rfl, by simp, ?_⟩
      rw [size_of_data]
      simp; omega)⟩
    rcases g5 with g5 | ⟨b, off, rfl, g5⟩
    · have hnil : xs () = [] := List.eq_nil_of_length_eq_zero (by omega)
      rw [hnil, g5, run_convert_bytes_string w src dst _ ad 0 cap hus (u8_of hT hel) hud]
      cases ad with
      | none => rfl
      | some b => rfl
    · have hl2 : ((xs ()).map fun c => UInt8.ofNat (lk c 0).toInt.toNat).length = len := by simp [g1]
      have := run_convert_bytes_back (P := P) w src dst _ ⟨b, off, none⟩ cap ((xs ()).map fun c => UInt8.ofNat (lk c 0).toInt.toNat) hus (u8_of hT hel) hud (fun j hj => by
        have hj' : j < (xs ()).length := by simpa using hj
        rw [Addr.add_lit, g5 j _ (hcs j hj').1]
        have e5 : lk (xs ()) j = (xs ())[j] := by simp [lk, List.getD, hj']
        have := hbs j hj'
        rw [e5] at this
        rw [e5]
        simp only [List.getElem_map]
        rw [this])
      rw [hl2] at this
      exact this
  · rename_i n lo len _
    split at h <;> (try (cases h; done))
    rename_i e' xs _ _ _ hsd2 hm hel
    have hsd2 := Nat.eq_of_beq_eq_true hsd2
    subst hsd2
    obtain ⟨rfl, _⟩ := sz_of_slice hdd
    simp only [Option.some.injEq] at h
    subst h
    have hx' := hx
    obtain ⟨p, hp, ho⟩ := hok.obj n _ hm
    simp only [VR] at hx
    rw [hp] at hx
    cases p with
    | none => exact (Bool.noConfusion ho.1)
    | some p =>
      obtain ⟨off, cap, rfl, g1, g2, g3, g4⟩ := hx
      obtain ⟨cs, t, fz, hh, r1, r2⟩ := ho
      obtain ⟨fz', k1, k2, k3⟩ := frozen_world hh r1
      rw [hud] at hus
      cases hus
      refine ⟨.slice (some ⟨p.b, off, none⟩) (len ()) cap, w.freeze ⟨p.b, cs.size, none⟩ 1, ?_, ?_⟩
      · have hsh : w.shape? p.b = some (t, cs.size) := by simp [World.shape?, hh]
        simp only [convert, Sem.run_bind, run_under hud, Result.andThen_ok, run_under (u8_of hT hel), beq_self_eq_true, markStringish, run_shape, hsh, run_freeze, Sem.run_pure]
      · refine Post.turned hok hm trivial hp k1 trivial ⟨cs, t, fz', k2, k3, ?_⟩ hx'
        have hIo : ∀ b, I b → (w.freeze ⟨p.b, cs.size, none⟩ 1).heap[b]? = w.heap[b]? := fun b hb => k1.other b (by rintro rfl; exact hok.sep _ ⟨n, _, p, hm, trivial, hp, rfl⟩ hb)
        obtain ⟨r3, r4, r5, r6, r7⟩ := r2.2
        refine ⟨r2.1, r3, r4, r5, r6, fun i hi => ?_⟩
        have := r7 i hi
        rw [DatC.iff] at this ⊢
        intro k s hk
        obtain ⟨u, h1, h2⟩ := this k s hk
        refine ⟨u, ?_, Dat.keep hIo (fun _ h => h) _ _ _ h2⟩
        rw [cell_of_row _ _ _ cs t fz' k2]
        rwa [cell_of_row _ _ _ cs t fz hh] at h1
end
end Go.Am
