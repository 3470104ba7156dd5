/- One operation: copy, stores, new objects, conversions. -/
import Derived.Test.YtckgeadidjmpcaaAmPartA
import Derived.Laws.IdiomStrings
namespace Go.Am
set_option linter.all false
set_option linter.deprecated false
section
variable {P : Program} {o : Oper} {a : Act} {w w' : World} {I I' : Nat → Prop} {σ : Sig} {M : MS} {key : Nat} {env : List AV} {T : TT}

theorem Post.reset (hok : Ok w I σ M) {n : Nat} {x y : MObj} (hx : mget M n = some x) (hq : σ n = some none) (hy : OR w I σ none y) {val : AV} {v : Value} (hv : VR w I σ val v) : Post w I σ M key val (mset M n y) v w := by
  have back : ∀ k z p, mget (mset M n y) k = some z → σ k = some (some p) → mget M k = some z := by
    intro k z p hk hs
    rw [mget_mset] at hk
    split at hk
    · rename_i e; subst e
      rw [hq] at hs; cases hs
    · exact hk
  have hown : ∀ b, Owned σ (mset M n y) b → Owned σ M b := by
    rintro b ⟨k, z, p, hk, hz, hs, hf⟩
    exact ⟨k, z, p, back k z p hk hs, hz, hs, hf⟩
  refine ⟨I, σ, hv, ⟨hok.lt, fun k z hk => ?_, fun b hb => hok.sep b (hown b hb), fun k k' z z' p p' b h1 h2 o1 o2 s1 s2 e f => hok.inj k k' z z' p p' b (back k z p h1 s1) (back k' z' p' h2 s2) o1 o2 s1 s2 e f⟩,
    ⟨rfl, rfl, rfl, Nat.le_refl _, fun _ _ _ => rfl, fun _ h => h, fun _ h => .inl h, fun b hb => .inl (hown b hb), fun _ _ h => h⟩, fun _ => .inl rfl⟩
  rw [mget_mset] at hk
  split at hk
  · rename_i e; subst e
    cases hk
    exact ⟨none, hq, hy⟩
  · exact hok.obj k z hk
theorem copy_ok (hok : Ok w I σ M) (hT : ∀ t i, T t = some i → TIok P t i) {t t' : Nat} {ti : TI} (ht : tget T t = some ti) {el esz eb : Nat} {esh : List Sh} (htd : ti.td = .slice el esz eb esh) (ty : TypeId) {n : Nat} {lo len : Unit → Nat} {src : AV}
    {nn : Bool} {e : List Sh} {xs ys : Unit → List (List D)} {r : List Nat} {vc : List (Unit → Prop)} (hm : mget M n = some (.row nn e xs)) (hel : elems M src = some (e, ys, r, vc)) (hes : e.length = esz) (hv1 : lo () + len () ≤ (xs ()).length) (hvc : ∀ p ∈ vc, p ())
    {u v : Value} (hs : VR w I σ (.ms n lo len) u) (hx : VR w I σ src v) :
    ∃ r w', (Builtin.copy_ #[t, t'] ty #[u, v]).run P w = .ok r w' ∧ Post w I σ M key (.int .i64 (fun _ => ((min (len ()) (ys ()).length : Nat) : Int))) (mset M n (.row nn e (fun _ => (xs ()).take (lo ()) ++ (ys ()).take (len ()) ++ (xs ()).drop (lo () + min (len ()) (ys ()).length)))) r w' := by
  obtain ⟨d, hu, hd, _⟩ := under_of hT ht
  rw [htd] at hd
  obtain ⟨rfl, hesh, hes0, inf, z, hinf, hisz, _⟩ := sz_of_slice hd
  obtain ⟨ad, m, c, cs, rfl, g1, g2, g3, g4, g5⟩ := elems_ok hok hel hvc hx
  obtain ⟨q, hq, hr⟩ := ok_row hok (.inl hm)
  simp only [VR] at hs
  rw [hq] at hs
  generalize hk : min (len ()) (ys ()).length = k
  have hkm : k ≤ m := by rw [g1]; omega
  have hkw : wfB .i64 (k : Int) = true := len_wf (by omega)
  have hf : (Builtin.firstCells inf.size k (.slice ad m c)).run P w = .ok (cs.take (k * e.length)).toArray w := by
    have hlen : (cs.take (k * e.length)).length = k * inf.size := by
      rw [List.length_take, g4.1, ← g1, Nat.min_eq_left (Nat.mul_le_mul_right _ hkm), hisz, hes]
    rcases g5 with g5 | ⟨b, of, rfl, g5⟩
    · have hk0 : k = 0 := by omega
      subst hk0
      have : cs.take (0 * e.length) = [] := by simp
      rw [this]
      cases ad with
      | none => exact run_firstCells_none w _ _ _ _
      | some b => exact run_firstCells_some w inf.size 0 b m c [] (by simp) (by simp)
    · exact run_firstCells_some w inf.size k ⟨b, of, none⟩ m c _ hlen (fun j c hc => by
        rw [Addr.add_lit]
        rw [List.getElem?_take] at hc
        split at hc
        · exact g5 j c hc
        · cases hc)
  have hrl : RowL w I e ((ys ()).take k) (cs.take (k * e.length)) := g4.take k (by omega)
  have htk : (ys ()).take (len ()) = (ys ()).take k := by
    rw [← hk]
    rcases Nat.le_total (len ()) (ys ()).length with h | h
    · rw [Nat.min_eq_left h]
    · rw [Nat.min_eq_right h, List.take_of_length_le h, List.take_of_length_le (Nat.le_refl _)]
  rcases hr with ⟨p, rfl, cs0, ct, fz, hh, r1, r2, r3, r4, r5, r6, r7⟩ | ⟨rfl, e1, e0⟩
  · obtain ⟨off, cap, rfl, k1, k2, k3, k4⟩ := hs
    obtain ⟨olds, o1, o2⟩ := RowL.of (w := w) (I := I) (e := e) (b := p.b) (off := p.o) (xs ()) fun i hi => by rw [← r3]; exact r7 i hi
    have hoff : k = 0 ∨ off = p.o + lo () * e.length := by
      rcases k1 with k1 | k1
      · left; omega
      · right; rw [k1, r3]
    have hl1 : (cs.take (k * e.length)).length = k * e.length := by rw [List.length_take, g4.1, ← g1, Nat.min_eq_left (Nat.mul_le_mul_right _ hkm)]
    have hmul : (lo () + k) * e.length ≤ (xs ()).length * e.length := Nat.mul_le_mul_right _ (by omega)
    have hmul2 : (xs ()).length * e.length ≤ p.cap * e.length := Nat.mul_le_mul_right _ r5
    have hmul3 : (lo () + k) * e.length = lo () * e.length + k * e.length := Nat.add_mul _ _ _
    obtain ⟨w', cs', st1, st2, st3, st4⟩ : ∃ w' cs', (storeCells ⟨p.b, off, none⟩ (cs.take (k * e.length))).run P w = .ok () w' ∧ Turned w w' p.b ∧ w'.heap[p.b]? = some (.cells cs' ct fz) ∧ Splice cs0 off (cs.take (k * e.length)) cs' := by
      rcases hoff with h0 | h0
      · subst h0
        have : cs.take (0 * e.length) = [] := by simp
        rw [this]
        exact ⟨w, cs0, rfl, .refl w _, hh, rfl, fun j => by rw [if_neg (by simp)]⟩
      · have := run_storeCells_splice (P := P) p.b off (cs.take (k * e.length)) 0 w cs0 ct fz hh (r1.1.mono (by rw [h0]; omega) (by rw [hl1, h0, r3]; omega)) (by rw [hl1, h0, r2, r3]; omega) (fun x hx => g4.ones g3 x (List.mem_of_mem_take hx))
        simpa using this
    refine ⟨goInt k, w', ?_, ?_⟩
    · have hmin : Nat.min m (len ()) = k := by rw [← hk, g1]; exact Nat.min_comm _ _
      simp only [Builtin.copy_, List.getElem?_toArray, List.getElem?_cons_zero, List.getElem?_cons_succ, Sem.run_bind, run_under hu, Result.andThen_ok, run_sizeOf_of hinf, Sem.run_pure, Builtin.lenOf, hmin, hf, st1]
    · refine Post.turned hok hm trivial hq st2 trivial ?_ (by simp only [VR, goInt, hk, true_and]; exact hkw)
      have hIo : ∀ b, I b → w'.heap[b]? = w.heap[b]? := fun b hb => st2.other b (by rintro rfl; exact hok.sep _ ⟨n, _, p, hm, trivial, hq, foot_b _ p⟩ hb)
      have q1 := (o1.take (lo ()) (by omega)).append hrl
      have q2 := q1.append (o1.drop (lo () + k) (by omega))
      refine ⟨⟨cs', ct, fz, st3, ⟨r1.1, r1.2.splice st4 (hoff.imp (fun h0 => by rw [h0, Nat.zero_mul]; rfl) fun h0 => by rw [hl1, h0, r3]; omega)⟩, by rw [st4.1, r2], r3, r4, ?_, r6, ?_⟩, row_pin hok hm hq⟩
      · show ((xs ()).take (lo ()) ++ (ys ()).take (len ()) ++ (xs ()).drop (lo () + k)).length ≤ p.cap
        rw [htk]
        simp only [List.length_append, List.length_take, List.length_drop]
        omega
      · show ∀ i, i < ((xs ()).take (lo ()) ++ (ys ()).take (len ()) ++ (xs ()).drop (lo () + k)).length → _
        rw [htk, r3]
        refine (q2.keep hIo fun _ h => h).row fun j c hc => ?_
        rw [cell_of_row w' p.b (p.o + j) cs' ct fz st3, st4.2 (p.o + j), hl1]
        have ol : olds.length = (xs ()).length * e.length := o1.1
        have l1 : (olds.take (lo () * e.length)).length = lo () * e.length := by rw [List.length_take, ol, Nat.min_eq_left (by omega)]
        by_cases h1 : j < lo () * e.length
        · rw [List.append_assoc, List.getElem?_append_left (by omega), List.getElem?_take, if_pos h1] at hc
          have := o2 j c hc
          rw [cell_of_row w p.b (p.o + j) cs0 ct fz hh] at this
          rcases hoff with h0 | h0
          · rw [if_neg (by subst h0; simp)]
            exact this
          · rw [if_neg (by omega)]
            exact this
        · rw [List.append_assoc, List.getElem?_append_right (by omega), l1] at hc
          by_cases h2 : j < lo () * e.length + k * e.length
          · rw [List.getElem?_append_left (by omega)] at hc
            rcases hoff with h0 | h0
            · subst h0; simp at h2; omega
            · rw [h0, if_pos (by omega), show p.o + j - (p.o + lo () * e.length) = j - lo () * e.length by omega]
              exact hc
          · rw [List.getElem?_append_right (by omega), hl1, List.getElem?_drop] at hc
            have := o2 _ c hc
            rw [cell_of_row w p.b _ cs0 ct fz hh, hmul3] at this
            rw [show lo () * e.length + k * e.length + (j - lo () * e.length - k * e.length) = j by omega] at this
            rcases hoff with h0 | h0
            · rw [if_neg (by subst h0; simp)]
              exact this
            · rw [if_neg (by omega)]
              exact this
  · obtain ⟨rfl, e2, e3⟩ := hs
    have hk0 : k = 0 := by omega
    subst hk0
    refine ⟨goInt 0, w, ?_, ?_⟩
    · have hmin : Nat.min m 0 = 0 := Nat.min_zero _
      simp only [Nat.zero_mul, List.take_zero] at hf
      simp only [Builtin.copy_, List.getElem?_toArray, List.getElem?_cons_zero, List.getElem?_cons_succ, Sem.run_bind, run_under hu, Result.andThen_ok, run_sizeOf_of hinf, Sem.run_pure, Builtin.lenOf, hmin, hf]
      rfl
    · obtain ⟨p, hp, ho⟩ := hok.obj n _ hm
      rw [hq] at hp; cases hp
      refine Post.reset hok hm hq ?_ (by simp only [VR, goInt, hk]; exact ⟨rfl, hkw⟩)
      refine (show nn = false ∧ (xs ()).take (lo ()) ++ (ys ()).take (len ()) ++ (xs ()).drop (lo () + 0) = [] ∧ 0 < e.length from ⟨ho.1, ?_, e0⟩)
      rw [htk, e1]
      simp
/-! ### stores -/
theorem lset_drop (cs : List AV) (off : Nat) : True := trivial
theorem encs_ok : ∀ {e : List Sh} {vs : List AV} {ds : List (Unit → D)} {us : List Value} (pre : List D), encs e vs = some ds → VRs w I σ vs us → DatL w I e pre.length (pre ++ dall ds) us
  | [], [], ds, us, pre, h, hv => by
    simp only [VRs] at hv
    exact hv
  | [], _ :: _, _, _, _, h, _ => by simp [encs] at h
  | _ :: _, [], _, _, _, h, _ => by simp [encs] at h
  | s :: ss, v :: vs, ds, us, pre, h, hv => by
    simp only [encs] at h
    split at h <;> (try (cases h; done))
    rename_i d ds' h1 h2
    simp only [Option.some.injEq] at h
    subst h
    simp only [VRs] at hv
    obtain ⟨u, us', rfl, hu, hv⟩ := hv
    simp only [DatL]
    refine ⟨u, us', rfl, ?_, ?_⟩
    · have : lk (pre ++ dall (d :: ds')) pre.length = d () := by simp [lk, List.getD, dall]
      rw [this]
      exact enc_ok h1 hu
    · have := encs_ok (pre ++ [d ()]) h2 hv
      simpa [dall] using this
theorem encs_length : ∀ {e : List Sh} {vs : List AV} {ds : List (Unit → D)}, encs e vs = some ds → vs.length = e.length ∧ ds.length = e.length
  | [], [], ds, h => by simp only [encs, Option.some.injEq] at h; subst h; exact ⟨rfl, rfl⟩
  | [], _ :: _, _, h => by simp [encs] at h
  | _ :: _, [], _, h => by simp [encs] at h
  | s :: ss, v :: vs, ds, h => by
    simp only [encs] at h
    split at h <;> (try (cases h; done))
    rename_i d ds' h1 h2
    simp only [Option.some.injEq] at h
    subst h
    have := encs_length h2
    simp [this.1, this.2]
theorem storeObj_ok (hok : Ok w I σ M) {t : Nat} {ti : TI} (hi : TIok P t ti) {n off : Nat} {cs : List AV} {x : AV} {u v : Value} (hm : mget M n = some (.obj cs)) (h1 : off + ti.size ≤ cs.length) (h2 : (cellsOf x).length = ti.size) (h3 : plains (cellsOf x) = true)
    (hu : VR w I σ (.mp n off) u) (hv : VR w I σ x v) : ∃ w', (Instr.storeAt t u v).run P w = .ok () w' ∧ Post w I σ M key .un (mset M n (.obj (lput cs off (cellsOf x)))) undef w' := by
  obtain ⟨p, hp, ho⟩ := hok.obj n _ hm
  simp only [VR] at hu
  rw [hp] at hu
  cases p with
  | none => exact hu.elim
  | some p =>
    simp only [PtR] at hu
    subst hu
    obtain ⟨us, tt, fz, hh, hf, hvs⟩ := ho
    obtain ⟨g1, g2⟩ := cellsOf_ok h3 hv
    have l1 := VRs.length g1
    have l2 := VRs.length hvs
    simp only [Array.length_toList] at l1 l2
    obtain ⟨w', cs', r1, r2, r3, r4⟩ := run_storeVar_of (P := P) (t := t) hi (by omega) g2 hh (hf.unfz (by omega)) (off := off) (by omega)
    refine ⟨w', r1, ?_⟩
    have K : Keep w I σ w' I σ := ⟨fun b hb => r2.other b (by rintro rfl; exact hok.sep _ ⟨n, _, p, hm, trivial, hp, foot_b _ p⟩ hb), fun b hb => hb, fun _ _ h => h⟩
    refine Post.turned hok hm trivial hp r2 trivial ⟨cs', tt, fz, r3, r4.unfrozen hf, VRs.keep K _ _ ?_⟩ (by simp only [VR])
    refine VRs.splice hvs g1 (by simp [r4.1]) (fun j => ?_) (by simp; omega)
    have := r4.2 j
    simpa using this
/-- part of an element's data turned -/
theorem setCells_lk : ∀ (ds : List D) (off : Nat) (ns : List D) (j : Nat), lk (setCells ds off ns) j = if off ≤ j ∧ j < off + ns.length ∧ j < ds.length then lk ns (j - off) else lk ds j
  | ds, off, [], j => by rw [if_neg (by simp; omega)]; rfl
  | ds, off, d :: rest, j => by
    simp only [setCells, List.length_cons]
    rw [setCells_lk]
    simp only [List.length_set]
    by_cases hj : off = j
    · subst hj
      rw [if_neg (by omega)]
      by_cases hl : off < ds.length
      · rw [if_pos (by omega)]
        simp [lk, List.getD, hl]
      · rw [if_neg (by omega)]
        simp [lk, List.getD, hl]
    · have e1 : lk (ds.set off d) j = lk ds j := by simp [lk, List.getD, List.getElem?_set_ne hj]
      by_cases h2 : off + 1 ≤ j ∧ j < off + 1 + rest.length ∧ j < ds.length
      · rw [if_pos h2, if_pos (by omega)]
        obtain ⟨n, rfl⟩ : ∃ n, j = off + 1 + n := ⟨j - (off + 1), by omega⟩
        rw [show off + 1 + n - (off + 1) = n by omega, show off + 1 + n - off = n + 1 by omega]
        simp [lk, List.getD]
      · rw [if_neg h2, if_neg (by omega), e1]
theorem DatC.iff {b : Nat} : ∀ {e : List Sh} {j : Nat} {ds : List D} {o : Nat}, DatC w I e j ds b o ↔ ∀ k s, e[k]? = some s → ∃ u, w.cell? ⟨b, o + j + k, none⟩ = some u ∧ Dat w I s (lk ds (j + k)) u
  | [], j, ds, o => by simp [DatC]
  | s :: ss, j, ds, o => by
    simp only [DatC, DatC.iff (e := ss)]
    constructor
    · rintro ⟨⟨u, hu, hd⟩, h⟩ k s' hk
      cases k with
      | zero => simp at hk; subst hk; exact ⟨u, hu, hd⟩
      | succ k =>
        obtain ⟨u', h1, h2⟩ := h k s' (by simpa using hk)
        exact ⟨u', by rwa [show o + j + (k + 1) = o + (j + 1) + k by omega], by rwa [show j + (k + 1) = j + 1 + k by omega]⟩
    · intro h
      refine ⟨h 0 s rfl, fun k s' hk => ?_⟩
      obtain ⟨u', h1, h2⟩ := h (k + 1) s' (by simpa using hk)
      exact ⟨u', by rwa [show o + (j + 1) + k = o + j + (k + 1) by omega], by rwa [show j + 1 + k = j + (k + 1) by omega]⟩
theorem DatL.get : ∀ {e : List Sh} {j : Nat} {ds : List D} {us : List Value}, DatL w I e j ds us → ∀ (k : Nat) (s : Sh), e[k]? = some s → ∃ u, us[k]? = some u ∧ Dat w I s (lk ds (j + k)) u
  | [], _, _, _, _, k, s, h => by simp at h
  | s :: ss, j, ds, us, h, k, s', hk => by
    simp only [DatL] at h
    obtain ⟨u, us', rfl, hd, h⟩ := h
    cases k with
    | zero => simp at hk; subst hk; exact ⟨u, rfl, hd⟩
    | succ k =>
      obtain ⟨u', h1, h2⟩ := DatL.get h k s' (by simpa using hk)
      exact ⟨u', by simpa using h1, by rwa [show j + (k + 1) = j + 1 + k by omega]⟩
theorem eshAt_get : ∀ {e : List Sh} {off n : Nat} {k : Nat}, k < n → off + n ≤ e.length → (eshAt e off n)[k]? = e[off + k]?
  | e, off, 0, k, h, _ => by omega
  | [], off, n + 1, k, _, h => by simp at h
  | s :: ss, 0, n + 1, k, h, hl => by
    simp only [eshAt]
    cases k with
    | zero => rfl
    | succ k =>
      have := eshAt_get (e := ss) (off := 0) (n := n) (k := k) (by omega) (by simp at hl; omega)
      simpa using this
  | s :: ss, off + 1, n + 1, k, h, hl => by
    simp only [eshAt]
    have := eshAt_get (e := ss) (off := off) (n := n + 1) (k := k) h (by simp at hl; omega)
    rw [this, show off + 1 + k = off + k + 1 by omega]
    rfl
theorem eshAt_bound : ∀ {e : List Sh} {off n : Nat}, (eshAt e off n).length = n → 1 ≤ n → off + n ≤ e.length
  | e, off, 0, _, h => by omega
  | [], off, n + 1, h, _ => by cases off <;> simp [eshAt] at h
  | s :: ss, 0, n + 1, h, _ => by
    simp only [eshAt, List.length_cons] at h
    cases n with
    | zero => simp
    | succ n =>
      have := eshAt_bound (e := ss) (off := 0) (n := n + 1) (by omega) (by omega)
      simp; omega
  | s :: ss, off + 1, n + 1, h, h1 => by
    simp only [eshAt] at h
    have := eshAt_bound (e := ss) (off := off) (n := n + 1) h h1
    simp; omega
theorem storeElem_ok (hok : Ok w I σ M) {t : Nat} {ti : TI} (hi : TIok P t ti) {n off : Nat} {ix : Unit → Nat} {nn : Bool} {e : List Sh} {xs : Unit → List (List D)} {x : AV} {cs' : List AV} {lent : List Nat} {vc : List (Unit → Prop)} {ds : List (Unit → D)} {nd : List D} {u v : Value}
    (hm : mget M n = some (.row nn e xs)) (hro : ros M (cellsOf x) = some (cs', lent, vc)) (hvc : ∀ p ∈ vc, p ()) (h2 : (cellsOf x).length = ti.size) (h3 : (eshAt e off ti.size).length = ti.size) (h4 : encs (eshAt e off ti.size) cs' = some ds) (h5 : n ∉ lent) (h6 : 1 ≤ ti.size)
    (hix : ix () < (xs ()).length) (hnd : ∀ k, k < e.length → lk nd k = if off ≤ k ∧ k < off + ti.size then lk (dall ds) (k - off) else lk (lk (xs ()) (ix ())) k)
    (hu : VR w I σ (.me n ix off) u) (hv : VR w I σ x v) : ∃ w', (Instr.storeAt t u v).run P w = .ok () w' ∧ Post w I σ M key .un (mset (mapply M (freeze M lent)) n (.row nn e (fun _ => (xs ()).set (ix ()) nd))) undef w' := by
  have hpl : plains (cellsOf x) = true := by
    have : ∀ (vs vs' : List AV) (l : List Nat) (c : List (Unit → Prop)) (e' : List Sh) (ds : List (Unit → D)), ros M vs = some (vs', l, c) → encs e' vs' = some ds → plains vs = true := by
      intro vs
      induction vs with
      | nil => intros; rfl
      | cons y ys ih =>
        intro vs' l c e' ds h h'
        unfold ros at h
        split at h <;> (try (cases h; done))
        rename_i y1 r1 c1 ys1 r2 c2 g1 g2
        simp only [Option.some.injEq, Prod.mk.injEq] at h
        obtain ⟨rfl, rfl, rfl⟩ := h
        cases e' with
        | nil => simp [encs] at h'
        | cons s ss =>
          simp only [encs] at h'
          split at h' <;> (try (cases h'; done))
          rename_i d' ds' k1 k2
          have := ih _ _ _ _ _ g2 k2
          unfold plains
          have hy : plain1 y = true := by
            cases y <;> first | rfl | (simp [ro] at g1; done) | skip
            · unfold ro at g1
              split at g1 <;> (try (cases g1; done))
              simp only [Option.some.injEq, Prod.mk.injEq] at g1
              obtain ⟨rfl, _⟩ := g1
              cases s <;> simp [enc] at k1
            · simp only [ro, Option.some.injEq, Prod.mk.injEq] at g1
              obtain ⟨rfl, _⟩ := g1
              cases s <;> simp [enc] at k1
          rw [hy]
          exact this
    exact this _ _ _ _ _ _ hro h4
  obtain ⟨g1, g2⟩ := cellsOf_ok hpl hv
  obtain ⟨g3, g4⟩ := ros_ok hok _ _ _ _ _ hro hvc g1
  obtain ⟨hok1, hext, _⟩ := hok.freeze g4
  have hm1 : mget (mapply M (freeze M lent)) n = some (.row nn e xs) := by rw [mget_freeze, if_neg h5]; exact hm
  obtain ⟨q, hq, hr⟩ := ok_row hok1 (.inl hm1)
  simp only [VR] at hu
  rw [hq] at hu
  rcases hr with ⟨p, rfl, cs0, ct, fz, hh, r1, r2, r3, r4, r5, r6, r7⟩ | ⟨rfl, e1, _⟩
  · simp only [PtR] at hu
    subst hu
    have l1 := VRs.length g1
    simp only [Array.length_toList] at l1
    have hb := eshAt_bound h3 h6
    have hcap : (ix () + 1) * p.sz ≤ p.cap * p.sz := Nat.mul_le_mul_right _ (by omega)
    rw [Nat.add_mul, Nat.one_mul] at hcap
    obtain ⟨w', cs1, s1, s2, s3, s4⟩ := run_storeVar_of (P := P) (t := t) hi (by omega) g2 hh (r1.1.mono (by omega) (by omega)) (off := p.o + ix () * p.sz + off) (by omega)
    refine ⟨w', s1, ?_⟩
    refine Post.after' hext (fun _ => .inl rfl) (Post.turned hok1 hm1 trivial hq s2 trivial ⟨⟨cs1, ct, fz, s3, ⟨r1.1, r1.2.splice s4 (.inr (by rw [show v.cells.toList.length = ti.size by simp; omega]; omega))⟩, by rw [s4.1, r2], r3, r4, by simpa using r5, r6, ?_⟩, row_pin hok1 hm1 hq⟩ (by simp only [VR]))
    have hIo : ∀ b, Also I (Lent σ lent) b → w'.heap[b]? = w.heap[b]? := fun b hb => s2.other b (by rintro rfl; exact hok1.sep _ ⟨n, _, p, hm1, trivial, hq, foot_b _ p⟩ hb)
    intro i hi'
    simp only [List.length_set] at hi'
    rw [DatC.iff]
    intro k s hk
    have hke : k < e.length := (List.getElem?_eq_some_iff.1 hk).1
    have hdl := encs_ok [] h4 g3
    simp only [List.length_nil, List.nil_append] at hdl
    have hcell : ∀ j, w'.cell? ⟨p.b, j, none⟩ = if p.o + ix () * p.sz + off ≤ j ∧ j < p.o + ix () * p.sz + off + ti.size then v.cells.toList[j - (p.o + ix () * p.sz + off)]? else w.cell? ⟨p.b, j, none⟩ := by
      intro j
      rw [cell_of_row w' p.b j cs1 ct fz s3, s4.2 j, cell_of_row w p.b j cs0 ct fz hh]
      rw [show v.cells.toList.length = ti.size by simp; omega]
    have hold := DatC.iff.1 (r7 i hi') k s hk
    simp only [Nat.add_zero, Nat.zero_add] at hold ⊢
    by_cases hii : i = ix ()
    · subst hii
      have e1 : lk ((xs ()).set (ix ()) nd) (ix ()) = nd := by simp [lk, List.getD, hi']
      rw [e1, hnd k hke]
      by_cases hin : off ≤ k ∧ k < off + ti.size
      · rw [if_pos hin]
        obtain ⟨u, hu1, hu2⟩ := hdl.get (k - off) s (by rw [eshAt_get (by omega) hb, show off + (k - off) = k by omega]; exact hk)
        refine ⟨u, ?_, by rw [Nat.zero_add] at hu2; exact Dat.keep hIo (fun _ h => h) _ _ _ hu2⟩
        rw [hcell, if_pos (by omega), show p.o + ix () * p.sz + k - (p.o + ix () * p.sz + off) = k - off by omega]
        exact hu1
      · rw [if_neg hin]
        obtain ⟨u, hu1, hu2⟩ := hold
        refine ⟨u, ?_, Dat.keep hIo (fun _ h => h) _ _ _ hu2⟩
        rw [hcell, if_neg (by omega)]
        exact hu1
    · have e1 : lk ((xs ()).set (ix ()) nd) i = lk (xs ()) i := by simp [lk, List.getD, List.getElem?_set_ne (Ne.symm hii)]
      rw [e1]
      obtain ⟨u, hu1, hu2⟩ := hold
      refine ⟨u, ?_, Dat.keep hIo (fun _ h => h) _ _ _ hu2⟩
      rw [hcell, if_neg]
      · exact hu1
      · rintro ⟨q1, q2⟩
        rcases Nat.lt_or_gt_of_ne hii with h | h
        · have : (i + 1) * p.sz ≤ ix () * p.sz := Nat.mul_le_mul_right _ h
          rw [Nat.add_mul, Nat.one_mul] at this
          omega
        · have : (ix () + 1) * p.sz ≤ i * p.sz := Nat.mul_le_mul_right _ h
          rw [Nat.add_mul, Nat.one_mul] at this
          omega
  · rw [e1] at hix
    simp at hix
end
end Go.Am
/- One operation: new objects, conversions. -/
namespace Go.Am
set_option linter.all false
set_option linter.deprecated false
section
variable {P : Program} {o : Oper} {a : Act} {w w' : World} {I I' : Nat → Prop} {σ : Sig} {M : MS} {key : Nat} {env : List AV} {T : TT}

theorem store1_ok (hok : Ok w I σ M) {t : Nat} {ti : TI} (hi : TIok P t ti) {x y : AV} {e : Eff} (h : store1 M ti x y = some e) (hvc : ∀ p ∈ e.vc, p ()) {u v : Value} (hu : VR w I σ y u) (hv : VR w I σ x v) :
    ∃ w', (Instr.storeAt t u v).run P w = .ok () w' ∧ Post w I σ M key e.val (mapply M e.upd) undef w' := by
  unfold store1 at h
  split at h <;> (try (cases h; done))
  · rename_i n off
    split at h <;> (try (cases h; done))
    rename_i cs hm
    split at h <;> (try (cases h; done))
    rename_i h1 h2 h3
    simp only [Option.some.injEq] at h
    subst h
    rw [llen_eq] at h1 h2
    simp only [mapply]
    exact storeObj_ok hok hi hm (Nat.le_of_ble_eq_true h1) (Nat.eq_of_beq_eq_true h2) h3 hu hv
  · rename_i n ix off
    split at h <;> (try (cases h; done))
    rename_i nn ee xs hm
    split at h <;> (try (cases h; done))
    rename_i cs lent vc hro
    split at h <;> (try (cases h; done))
    rename_i ds h2 h3 h4 h5
    rw [llen_eq] at h2
    have h2 := Nat.eq_of_beq_eq_true h2
    have h3 := Nat.eq_of_beq_eq_true h3
    have h5 : n ∉ lent := fun hn => by rw [(nmem_iff lent n).2 hn] at h5; cases h5
    split at h <;> (try (cases h; done))
    · rename_i q1 q2 q3
      have q1 := Nat.eq_of_beq_eq_true q1
      have q2 := Nat.eq_of_beq_eq_true q2
      have q3 := Nat.le_of_ble_eq_true q3
      simp only [Option.some.injEq] at h
      subst h q1
      rw [mapply_append]
      simp only [mapply]
      have hl := (encs_length h4).2
      exact storeElem_ok hok hi hm hro (fun p hp => hvc p (List.mem_cons_of_mem _ hp)) h2 h3 h4 h5 q3 (hvc (fun _ => ix () < (xs ()).length) List.mem_cons_self) (fun k hk => by rw [if_pos (by omega)]; rfl) hu hv
    · rename_i q3 _
      have q3 := Nat.le_of_ble_eq_true q3
      simp only [Option.some.injEq] at h
      subst h
      rw [mapply_append]
      simp only [mapply]
      have hl := (encs_length h4).2
      have hlen : (lk (xs ()) (ix ())).length = ee.length := hvc (fun _ => (lk (xs ()) (ix ())).length = ee.length) (List.mem_cons_of_mem _ List.mem_cons_self)
      refine storeElem_ok hok hi hm hro (fun p hp => hvc p (List.mem_cons_of_mem _ (List.mem_cons_of_mem _ hp))) h2 h3 h4 h5 q3 (hvc (fun _ => ix () < (xs ()).length) List.mem_cons_self) (fun k hk => ?_) hu hv
      rw [setCells_lk]
      have : (dall ds).length = ti.size := by simp [dall, hl, h3]
      rw [this, hlen]
      by_cases hh : off ≤ k ∧ k < off + ti.size
      · rw [if_pos hh, if_pos ⟨hh.1, hh.2, hk⟩]
      · rw [if_neg hh, if_neg (fun q => hh ⟨q.1, q.2.1⟩)]
theorem alloc_ok (hok : Ok w I σ M) (hfree : σ key = none) {t : Nat} {ti : TI} (hi : TIok P t ti) : ∃ r w', (Instr.alloc t true (.tuple #[])).run P w = .ok r w' ∧ Post w I σ M key (.mp key 0) (mset M key (.obj ti.zero)) r w' := by
  obtain ⟨inf, z, hinf, hs, hz, hzs, hzr⟩ := hi.info
  refine ⟨.pointer (some ⟨w.heap.size, 0, none⟩), w.alloc (.cells z.cells t), ?_, ?_⟩
  · simp [Instr.alloc, zeroValue, typeInfo, hinf, hz, newVar, newRow]
  · refine Post.alloc hok hfree (.alloc w _) (cap := 1) (sz := 1) trivial ⟨z.cells, t, (0, 0), (More.alloc w _).new, by simp [unfrozen], hzr _ _ _⟩ ?_
    simp only [VR, Sig.upd_same, PtR]
theorem box_ok (hok : Ok w I σ M) (hfree : σ key = none) {t : Nat} {x : AV} {v : Value} (h3 : plains (cellsOf x) = true) (hv : VR w I σ x v) : ∃ r w', (Instr.box t v).run P w = .ok r w' ∧ Post w I σ M key (.mp key 0) (mset M key (.obj (cellsOf x))) r w' := by
  refine ⟨.pointer (some ⟨w.heap.size, 0, none⟩), w.alloc (.cells v.cells t), ?_, ?_⟩
  · simp [Instr.box, newVar, newRow]
  · have hsig : ∀ k p, σ k = some p → σ.upd key (some (.one w.heap.size 1 1)) k = some p := fun k p h => by
      rw [Sig.upd_other _ _ (by rintro rfl; rw [hfree] at h; cases h)]; exact h
    have K : Keep w I σ (w.alloc (.cells v.cells t)) I (σ.upd key (some (.one w.heap.size 1 1))) := ⟨fun b hb => (More.alloc w _).old (hok.lt b hb), fun _ h => h, hsig⟩
    refine Post.alloc hok hfree (.alloc w _) (cap := 1) (sz := 1) trivial ⟨v.cells, t, (0, 0), (More.alloc w _).new, by simp [unfrozen], VRs.keep K _ _ (cellsOf_ok h3 hv).1⟩ ?_
    simp only [VR, Sig.upd_same, PtR]
theorem fget_places (sz : Nat) : ∀ (n i k off ft s : Nat), fget (places sz i n) k = some (off, ft, s) → off = (i + k) * sz ∧ s = sz
  | 0, i, k, off, ft, s, h => by simp [places, fget] at h
  | n + 1, i, 0, off, ft, s, h => by
    simp only [places, fget, Option.some.injEq, Prod.mk.injEq] at h
    obtain ⟨rfl, _, rfl⟩ := h
    exact ⟨rfl, rfl⟩
  | n + 1, i, k + 1, off, ft, s, h => by
    simp only [places, fget] at h
    have := fget_places sz n (i + 1) k off ft s h
    rw [this.1, this.2]
    exact ⟨by congr 1; omega, rfl⟩
theorem mapM_sizes : ∀ (fs : List (Nat × Nat × Nat)) (gs : List Field), FsR P fs gs → fs.length = gs.length → (gs.mapM (fun (f : Field) => (do pure (f.offset, ← sizeOf f.type) : Sem (Nat × Nat)))).run P w = .ok (fs.map fun f => (f.1, f.2.2)) w
  | [], [], _, _ => rfl
  | [], _ :: _, _, h => by simp at h
  | _ :: _, [], _, h => by simp at h
  | (off, ft, sz) :: fs, g :: gs, h, hl => by
    obtain ⟨rfl, rfl, ⟨inf, hinf, hsz⟩, h⟩ := h
    have ih := mapM_sizes fs gs h (by simpa using hl)
    simp only [List.mapM_cons, Sem.run_bind, run_sizeOf_of hinf, Result.andThen_ok, Sem.run_pure, ih, hsz, List.map_cons]
theorem build_ok (hT : ∀ t i, T t = some i → TIok P t i) {t : Nat} {ti : TI} (ht : tget T t = some ti) {fs : List (Nat × Nat × Nat)} (hfs : (∃ c, ti.td = .struct fs c) ∨ ∃ n el sz, ti.td = .array n el sz ∧ fs = places sz 0 n) {ps : List (Nat × AV)} {qs : List (Nat × Value)} {cs : List AV}
    (h : buildAv fs ti.zero ps = some cs) (hl : ps.length = qs.length) (hps : ∀ (j i : Nat) (v : AV), ps[j]? = some (i, v) → ∃ u, qs[j]? = some (i, u) ∧ VR w I σ v u) :
    ∃ r, (Instr.build t qs.toArray).run P w = .ok r w ∧ VR w I σ (.agg cs) r := by
  obtain ⟨d, hu, hd, _⟩ := under_of hT ht
  obtain ⟨inf, z, hinf, hs, hz, hzs, hzr⟩ := (hT t ti ht).info
  rcases hfs with ⟨c, htd⟩ | ⟨n, el, sz, htd, rfl⟩ <;> rw [htd] at hd
  · obtain ⟨fields, rfl, hf, hlen, _⟩ := hd
    obtain ⟨us', g1, g2⟩ := fill_ok (w := w) (I := I) (σ := σ) (fun i => (fs.map fun f => (f.1, f.2.2))[i]?) fs (fun i off ft s hf' => by
      have : ∀ (fs : List (Nat × Nat × Nat)) (i : Nat), fget fs i = some (off, ft, s) → fs[i]? = some (off, ft, s) := by
        intro fs
        induction fs with
        | nil => intro i h; simp [fget] at h
        | cons f fs ih =>
          intro i h
          cases i with
          | zero => simpa [fget] using h
          | succ i => simpa using ih i (by simpa [fget] using h)
      simp [this fs i hf']) ps qs ti.zero cs z.cells h hl hps (hzr _ _ _)
    refine ⟨.agg us', ?_, by simp only [VR]; exact ⟨us', rfl, g2⟩⟩
    have hm := mapM_sizes (P := P) (w := w) fs fields.toList hf (by simpa using hlen)
    simp only [Instr.build, Sem.run_bind, zeroValue, typeInfo, run_program, Result.andThen_ok, hinf, Sem.run_pure, hz, run_under hu, Array.mapM_eq_mapM_toList, Sem.run_map, hm]
    simp only [List.getElem?_toArray, g1]
    rfl
  · obtain ⟨rfl, inf', hinf', hsz⟩ := hd
    obtain ⟨us', g1, g2⟩ := fill_ok (w := w) (I := I) (σ := σ) (fun i => some (i * sz, sz)) (places sz 0 n) (fun i off ft s hf => by
      obtain ⟨rfl, rfl⟩ := fget_places sz n 0 i off ft s hf
      simp) ps qs ti.zero cs z.cells h hl hps (hzr _ _ _)
    refine ⟨.agg us', ?_, by simp only [VR]; exact ⟨us', rfl, g2⟩⟩
    simp [Instr.build, zeroValue, typeInfo, hinf, hz, run_under hu, run_sizeOf_of hinf', hsz, g1]
theorem flat_rep_get (us : List Value) (h0 : 0 < us.length) : ∀ (n j : Nat), ((List.replicate n us).flatten)[j]? = if j < n * us.length then us[j % us.length]? else none
  | 0, j => by simp
  | n + 1, j => by
    rw [List.replicate_succ, List.flatten_cons]
    by_cases h : j < us.length
    · rw [List.getElem?_append_left h, if_pos (by rw [Nat.succ_mul]; omega), Nat.mod_eq_of_lt h]
    · rw [List.getElem?_append_right (by omega), flat_rep_get us h0 n (j - us.length)]
      rw [Nat.succ_mul, ← Nat.mod_eq_sub_mod (by omega)]
      by_cases h2 : j - us.length < n * us.length
      · rw [if_pos h2, if_pos (by omega)]
      · rw [if_neg h2, if_neg (by omega)]
theorem range_rep (zs : Array Value) (n : Nat) (h0 : 0 < zs.size) : ((Array.range (n * zs.size)).map (zs[· % zs.size]!)).toList = (List.replicate n zs.toList).flatten := by
  refine List.ext_getElem? fun j => ?_
  rw [flat_rep_get _ (by simpa using h0)]
  simp only [Array.length_toList, Array.toList_map, Array.toList_range, List.getElem?_map, List.getElem?_range']
  by_cases h : j < n * zs.size
  · have hm : j % zs.size < zs.size := Nat.mod_lt _ h0
    rw [if_pos h, List.getElem?_range h]
    simp [hm]
  · rw [if_neg h, List.getElem?_eq_none (by simp; omega)]
    rfl
theorem VRs.rep : ∀ {zs : List AV} {us : List Value} (n : Nat), VRs w I σ zs us → VRs w I σ (Am.rep zs n) (List.replicate n us).flatten
  | zs, us, 0, _ => by simp [Am.rep, VRs]
  | zs, us, n + 1, h => by
    rw [Am.rep, lapp_eq, List.replicate_succ, List.flatten_cons]
    exact h.append (VRs.rep n h)
theorem RowL.rep {e : List Sh} {ds : List D} {us : List Value} (h : DatL w I e 0 ds us) : ∀ n, RowL w I e (List.replicate n ds) (List.replicate n us).flatten
  | 0 => by simpa using RowL.nil e
  | n + 1 => by
    have h1 : RowL w I e [ds] us := by simpa using (RowL.nil (w := w) (I := I) e).snoc h
    rw [List.replicate_succ, List.replicate_succ, List.flatten_cons]
    exact RowL.append (xs := [ds]) h1 (RowL.rep h n)
theorem encs_append : ∀ {e1 e2 : List Sh} {vs : List AV} {ds : List (Unit → D)}, encs (e1 ++ e2) vs = some ds → encs e1 (vs.take e1.length) = some (ds.take e1.length) ∧ encs e2 (vs.drop e1.length) = some (ds.drop e1.length)
  | [], e2, vs, ds, h => by simpa [encs] using h
  | s :: ss, e2, [], ds, h => by simp [encs] at h
  | s :: ss, e2, v :: vs, ds, h => by
    simp only [List.cons_append, encs] at h
    split at h <;> (try (cases h; done))
    rename_i d ds' h1 h2
    simp only [Option.some.injEq] at h
    subst h
    obtain ⟨g1, g2⟩ := encs_append h2
    simp [encs, h1, g1, g2]
theorem chunk_ok {esh : List Sh} {sz : Nat} (hsz : esh.length = sz) : ∀ (n : Nat) {vs : List AV} {ds : List (Unit → D)} {us : List Value}, encs (repSh esh n) vs = some ds → VRs w I σ vs us → RowL w I esh ((chunk sz n ds).map dall) us
  | 0, vs, ds, us, h, hv => by
    have := (encs_length h).1
    simp only [repSh, List.length_nil] at this
    have := VRs.length hv
    have : us = [] := List.eq_nil_of_length_eq_zero (by omega)
    subst this
    exact RowL.nil _
  | n + 1, vs, ds, us, h, hv => by
    obtain ⟨h1, h2⟩ := encs_append h
    rw [hsz] at h1 h2
    have ih := chunk_ok hsz n h2 (hv.drop sz)
    have hd := encs_ok (w := w) (I := I) (σ := σ) [] h1 (hv.take sz)
    have h3 : RowL w I esh [dall (ds.take sz)] (us.take sz) := by simpa using (RowL.nil (w := w) (I := I) esh).snoc hd
    have := RowL.append h3 ih
    simpa [chunk] using this
theorem buildSlice_ok (hok : Ok w I σ M) (hfree : σ key = none) (hT : ∀ t i, T t = some i → TIok P t i) {t : Nat} {ti : TI} (ht : tget T t = some ti) {el sz eb : Nat} {esh : List Sh} (htd : ti.td = .slice el sz eb esh) {ei : TI} (hel : tget T el = some ei) {len : Nat} {ps : List (Nat × AV)} {qs : List (Nat × Value)} {cs cs' : List AV}
    {lent : List Nat} {vc : List (Unit → Prop)} {ds : List (Unit → D)} (h1 : buildAv (places sz 0 len) (rep ei.zero len) ps = some cs) (h2 : ros M cs = some (cs', lent, vc)) (hvc : ∀ p ∈ vc, p ()) (h3 : encs (repSh esh len) cs' = some ds) (h4 : len * sz ≤ 16777216)
    (hl : ps.length = qs.length) (hps : ∀ (j i : Nat) (v : AV), ps[j]? = some (i, v) → ∃ u, qs[j]? = some (i, u) ∧ VR w I σ v u) :
    ∃ r w', (Instr.buildSlice t len qs.toArray).run P w = .ok r w' ∧ Post w I σ M key (.ms key (fun _ => 0) (fun _ => len)) (mset (mapply M (freeze M lent)) key (.row true esh (fun _ => (chunk sz len ds).map dall))) r w' := by
  obtain ⟨d, hu, hd, _⟩ := under_of hT ht
  rw [htd] at hd
  obtain ⟨rfl, hesh, hes0, inf, z, hinf, hisz, hib, hiz, hzs⟩ := sz_of_slice hd
  obtain ⟨inf2, z2, hinf2, hs2, hz2, hzs2, hzr⟩ := (hT el ei hel).info
  obtain rfl : inf = inf2 := by rw [hinf] at hinf2; cases hinf2; rfl
  obtain rfl : z = z2 := by rw [hiz] at hz2; cases hz2; rfl
  have hr0 : VRs w I σ (rep ei.zero len) ((Array.range (len * z.cells.size)).map (z.cells[· % z.cells.size]!)).toList := by
    rw [range_rep _ _ (by omega)]
    exact VRs.rep len (hzr w I σ)
  obtain ⟨us', g1, g2⟩ := fill_ok (w := w) (I := I) (σ := σ) (fun i => some (i * sz, sz)) (places sz 0 len) (fun i off ft s hf => by
      obtain ⟨rfl, rfl⟩ := fget_places sz len 0 i off ft s hf
      simp) ps qs _ cs _ h1 hl hps hr0
  obtain ⟨g3, g4⟩ := ros_ok hok _ _ _ _ _ h2 hvc g2
  obtain ⟨hok1, hext, _⟩ := hok.freeze g4
  have hrow := chunk_ok hesh len h3 g3
  have hlen : ((chunk sz len ds).map dall).length = len := by
    have : ∀ (n : Nat) (l : List (Unit → D)), (chunk sz n l).length = n := by
      intro n
      induction n with
      | zero => intro l; rfl
      | succ n ih => intro l; simp [chunk, ih]
    simp [this]
  refine ⟨.slice (some ⟨w.heap.size, 0, none⟩) len len, w.alloc (.cells us' el), ?_, ?_⟩
  · have hzv : (zeroValue el).run P w = .ok z w := by simp [zeroValue, typeInfo, hinf, hiz]
    have harr : ∀ (zz : Array Value), (len * sz = 0 ∨ zz = z.cells) → (Array.range (len * sz)).map (zz[· % zz.size]!) = (Array.range (len * z.cells.size)).map (z.cells[· % z.cells.size]!) := by
      intro zz h
      rcases h with h | rfl
      · rw [hzs, h]; simp
      · rw [hzs]
    by_cases h : len * sz = 0
    · simp only [Instr.buildSlice, Sem.run_bind, run_under hu, Result.andThen_ok, run_sizeOf_of hinf, hisz, if_neg (show ¬ len * sz > 2 ^ 24 by omega), if_pos h, Sem.run_pure]
      rw [harr _ (.inl h)]
      simp only [g1]
      rfl
    · simp only [Instr.buildSlice, Sem.run_bind, run_under hu, Result.andThen_ok, run_sizeOf_of hinf, hisz, if_neg (show ¬ len * sz > 2 ^ 24 by omega), if_neg h, hzv, Sem.run_pure]
      rw [harr _ (.inr rfl)]
      simp only [g1]
      rfl
  · refine Post.after' hext (fun _ => .inl rfl) (Post.alloc hok1 hfree (.alloc w _) (cap := len) (sz := esh.length) trivial ?_ ?_)
    · refine row_new (.alloc w _) hok1.lt (by omega) hrow ?_ (fun j c hc => by simpa using hc) (by rw [hlen]; exact Nat.le_refl _) ?_ (by simp [unfrozen])
      · have := hrow.1
        rw [hlen] at this
        simpa using this
      · have : len * 1 ≤ len * sz := Nat.mul_le_mul_left _ (by omega)
        unfold maxLen; omega
    · simp only [VR, Sig.upd_same, MsR]
      have : len * 1 ≤ len * sz := Nat.mul_le_mul_left _ (by omega)
      exact ⟨0, len, rfl, .inr (by simp), by simp, Nat.le_refl _, by unfold maxLen; omega⟩
theorem makeSlice_ok (hok : Ok w I σ M) (hfree : σ key = none) (hT : ∀ t i, T t = some i → TIok P t i) {t : Nat} {ti : TI} (ht : tget T t = some ti) {el sz eb : Nat} {esh : List Sh} (htd : ti.td = .slice el sz eb esh) {ei : TI} (hel : tget T el = some ei) (heb : eb ≤ 128) {ds : List (Unit → D)} (h3 : encs esh ei.zero = some ds) {n m : Int}
    (hnm : n = m) (h0 : 0 ≤ n) (hb : n ≤ big) : ∃ r w', (Instr.makeSlice t (.int .i64 n) (.int .i64 m)).run P w = .ok r w' ∧ Post w I σ M key (.ms key (fun _ => 0) (fun _ => n.toNat)) (mset M key (.row true esh (fun _ => List.replicate n.toNat (dall ds)))) r w' := by
  subst hnm
  obtain ⟨d, hu, hd, _⟩ := under_of hT ht
  rw [htd] at hd
  obtain ⟨rfl, hesh, hes0, inf, z, hinf, hisz, hib, hiz, hzs⟩ := sz_of_slice hd
  obtain ⟨inf2, z2, hinf2, hs2, hz2, hzs2, hzr⟩ := (hT el ei hel).info
  obtain rfl : inf = inf2 := by rw [hinf] at hinf2; cases hinf2; rfl
  obtain rfl : z = z2 := by rw [hiz] at hz2; cases hz2; rfl
  have hdl : DatL w I esh 0 (dall ds) z.cells.toList := by simpa using encs_ok [] h3 (hzr w I σ)
  obtain ⟨k, rfl⟩ : ∃ k : Nat, n = k := ⟨n.toNat, by omega⟩
  have hbig : k ≤ 1099511627776 := by unfold big at hb; omega
  have hw : IntKind.i64.wrap (k : Int) = k := by
    simp [IntKind.wrap, IntKind.signed, IntKind.bits]; omega
  have hbytes : eb * k ≤ 140737488355328 := by
    calc eb * k ≤ 128 * 1099511627776 := Nat.mul_le_mul heb hbig
      _ ≤ _ := by decide
  refine ⟨.slice (some ⟨w.heap.size, 0, none⟩) k k, w.alloc (.cells ((Array.range (k * z.cells.size)).map (z.cells[· % z.cells.size]!)) el), ?_, ?_⟩
  · have hzv : (zeroValue el).run P w = .ok z w := by simp [zeroValue, typeInfo, hinf, hiz]
    have harr : ∀ (zz : Array Value), (k * sz = 0 ∨ zz = z.cells) → (Array.range (k * sz)).map (zz[· % zz.size]!) = (Array.range (k * z.cells.size)).map (z.cells[· % z.cells.size]!) := by
      intro zz h
      rcases h with h | rfl
      · rw [hzs, h]; simp
      · rw [hzs]
    have hti : (typeInfo el).run P w = .ok inf w := by simp [typeInfo, hinf]
    have hnl : ¬ ((((k : Int) < 0 || (inf.bytes : Int) * k > 2 ^ 48) || (k : Int) < 0 || (k : Int) > k) = true) := by
      have h1 : ¬ ((k : Int) < 0) := by omega
      have h2 : ¬ ((inf.bytes : Int) * k > 2 ^ 48) := by
        rw [hib]
        have : ((eb : Int) * k) = ((eb * k : Nat) : Int) := by simp
        rw [this]; omega
      simp only [Bool.or_eq_true, decide_eq_true_eq, not_or]
      exact ⟨⟨⟨h1, h2⟩, h1⟩, by omega⟩
    by_cases h : k * sz = 0
    · simp only [Instr.makeSlice, Sem.run_bind, run_under hu, Result.andThen_ok, asInt, asIntOf, Sem.run_pure, hti, hw, if_neg hnl, run_askRoom, Int.toNat_natCast, run_sizeOf_of hinf, hisz, if_pos h]
      rw [harr _ (.inl h)]
      rfl
    · simp only [Instr.makeSlice, Sem.run_bind, run_under hu, Result.andThen_ok, asInt, asIntOf, Sem.run_pure, hti, hw, if_neg hnl, run_askRoom, Int.toNat_natCast, run_sizeOf_of hinf, hisz, if_neg h, hzv]
      rw [harr _ (.inr rfl)]
      rfl
  · refine Post.alloc hok hfree (.alloc w _) (cap := k) (sz := esh.length) trivial ?_ ?_
    · refine row_new (.alloc w _) hok.lt (by omega) (RowL.rep hdl k) ?_ (fun j c hc => ?_) (by simp) (by unfold maxLen; omega) (by simp [unfrozen])
      · simp [hzs, hesh]
      · rw [← range_rep _ _ (by omega)] at hc
        rwa [Array.getElem?_toList] at hc
    · simp only [VR, Sig.upd_same, MsR, Int.toNat_natCast]
      exact ⟨0, k, rfl, .inr (by simp), by simp, Nat.le_refl _, by unfold maxLen; omega⟩
theorem frozen_world {b : Nat} {cs : Array Value} {t : TypeId} {fz : Nat × Nat} (hh : w.heap[b]? = some (.cells cs t fz)) (hf : unfrozen cs fz) :
    ∃ fz', Turned w (w.freeze ⟨b, cs.size, none⟩ 1) b ∧ (w.freeze ⟨b, cs.size, none⟩ 1).heap[b]? = some (.cells cs t fz') ∧ unfrozen cs fz' := by
  obtain ⟨lo, hi⟩ := fz
  refine ⟨if lo == hi then (cs.size, cs.size + 1) else (min lo cs.size, max hi (cs.size + 1)), ⟨rfl, rfl, rfl, by simp [World.freeze], fun k hk => ?_⟩, ?_, ?_⟩
  · simp only [World.freeze, Nat.one_ne_zero, if_false, Array.getElem?_modify]
    rw [if_neg (by omega)]
  · simp [World.freeze, Array.getElem?_modify, hh]
  · unfold unfrozen at *
    simp only at hf
    split
    · exact .inr (Nat.le_refl _)
    · rename_i hne
      simp only [beq_iff_eq] at hne
      simp only
      omega
theorem u8_of {T : TT} (hT : ∀ t i, T t = some i → TIok P t i) {el s : Nat} {g : Bool} {z : List AV} (h : tget T el = some ⟨s, g, z, .int .u8⟩) : P.underlying el = some (.int .u8) := by
  obtain ⟨d, hu, hd, _⟩ := under_of hT h
  simp only [TDok] at hd
  rw [hu, hd]
theorem toInt_byte (b : UInt8) : (wfB .u8 (b.toNat : Int)) = true := by
  rw [wf_iff]
  have := b.toNat_lt
  simp [IntKind.min, IntKind.max, IntKind.signed, IntKind.bits]
  omega
theorem conv_ok (hok : Ok w I σ M) (hfree : σ key = none) (hT : ∀ t i, T t = some i → TIok P t i) {src dst : Nat} {x : AV} {e : Eff} (h : convAv M key T src dst x = some e) (hvc : ∀ p ∈ e.vc, p ()) {u : Value} (hx : VR w I σ x u) :
    ∃ r w', (convert src dst u).run P w = .ok r w' ∧ Post w I σ M key e.val (mapply M e.upd) r w' := by
  unfold convAv at h
  split at h <;> (try (cases h; done))
  rename_i si di hs hd
  obtain ⟨sd, hus, hsd, _⟩ := under_of hT hs
  obtain ⟨dd, hud, hdd, _⟩ := under_of hT hd
  split at h <;> (try (cases h; done)) <;> rw [‹di.td = _›] at hdd
  · rename_i k k' n _
    simp only [Eff.pure, Option.some.injEq] at h
    subst h
    simp only [VR] at hx
    obtain ⟨rfl, _⟩ := hx
    simp only [TDok] at hdd
    subst hdd
    refine ⟨_, w, ?_, .same hok (v := .int k (k.wrap (n ()))) (by simp only [VR, true_and]; exact wrap_wf _ _)⟩
    simp only [convert, Sem.run_bind, run_under hus, run_under hud, Result.andThen_ok]
    rfl
  · rename_i s _
    simp only [Eff.pure, Option.some.injEq] at h
    subst h
    have hx' := hx
    simp only [VR] at hx
    obtain ⟨t, rfl, e1, e2⟩ := hx
    simp only [TDok] at hdd
    subst hdd
    refine ⟨.string t, w, ?_, .same hok hx'⟩
    simp only [convert, Sem.run_bind, run_under hus, run_under hud, Result.andThen_ok]
    rfl
  · rename_i el s _
    split at h <;> (try (cases h; done))
    rename_i hstd hel
    rw [hstd] at hsd
    simp only [TDok] at hsd
    subst hsd
    obtain ⟨rfl, _⟩ := sz_of_slice hdd
    simp only [Option.some.injEq] at h
    subst h
    have hb : (s ()).length ≤ big := hvc (fun _ => (s ()).length ≤ big) (List.mem_singleton.2 rfl)
    simp only [VR] at hx
    obtain ⟨t, rfl, e1, e2⟩ := hx
    have hrun := run_bytes_of_string (P := P) w src dst el t hus hud (u8_of hT hel)
    have hge := grownCap_ge w t.size 0 el
    have hcm := grownCap_le_maxLen w t.size 0 el e2
    have hsz : (bytesRow t (grownCap w t.size 0 el)).size = grownCap w t.size 0 el := by
      simp only [bytesRow, Array.size_append, Array.size_map, Array.size_replicate]
      have : t.data.size = t.size := rfl
      omega
    refine ⟨_, _, hrun, ?_⟩
    simp only [mapply]
    have hmore : More w (w.drew.alloc (.cells (bytesRow t (grownCap w t.size 0 el)) el ((bytesRow t (grownCap w t.size 0 el)).size, (bytesRow t (grownCap w t.size 0 el)).size + 1))) (.cells (bytesRow t (grownCap w t.size 0 el)) el ((bytesRow t (grownCap w t.size 0 el)).size, (bytesRow t (grownCap w t.size 0 el)).size + 1)) := ⟨rfl, rfl, rfl, rfl⟩
    have hln : (s ()).length = t.size := by rw [← e1, ← size_of_data]
    refine Post.alloc hok hfree hmore (cap := grownCap w t.size 0 el) (sz := [Sh.int .u8].length) trivial ?_ ?_
    · have hrow : RowL w I [.int .u8] ((s ()).map fun b => [D.int b.toNat]) ((s ()).map fun b => Value.int .u8 b.toNat) := by
        refine ⟨by simp, fun i hi => ?_⟩
        simp only [List.length_map] at hi
        have e3 : lk ((s ()).map fun b => [D.int b.toNat]) i = [D.int (s ())[i].toNat] := by simp [lk, List.getD, List.getElem?_eq_getElem hi]
        rw [e3]
        have e4 : (((s ()).map fun b => Value.int .u8 b.toNat).drop (i * [Sh.int IntKind.u8].length)).take [Sh.int IntKind.u8].length = [Value.int .u8 (s ())[i].toNat] := by
          refine List.ext_getElem? fun j => ?_
          cases j with
          | zero => simp [List.getElem?_eq_getElem hi]
          | succ j => simp [List.getElem?_take]
        rw [e4]
        exact ⟨_, _, rfl, ⟨rfl, toInt_byte _⟩, rfl⟩
      refine row_new hmore hok.lt (by simp) hrow (by rw [hsz]; simp) (fun j c hc => ?_) (by simp only [List.length_map]; omega) hcm (.inr (Nat.le_refl _))
      rw [List.getElem?_map, ← e1] at hc
      have hj : j < t.data.size := by
        rw [Option.map_eq_some_iff] at hc
        obtain ⟨y, hy, _⟩ := hc
        simpa using (List.getElem?_eq_some_iff.1 hy).1
      rw [bytesRow_at t _ j hj]
      rw [Array.getElem?_toList, Array.getElem?_eq_getElem hj] at hc
      simpa using hc
    · simp only [VR, Sig.upd_same, MsR, hln]
      exact ⟨0, _, rfl, .inr (by simp), by simp, hge, hcm⟩
  · split at h <;> (try (cases h; done))
    rename_i hstd
    split at h <;> (try (cases h; done))
    rename_i hel
    rw [hstd] at hsd
    obtain ⟨rfl, _⟩ := sz_of_slice hsd
    simp only [TDok] at hdd
    subst hdd
    simp only [Eff.pure, Option.some.injEq] at h
    subst h
    simp only [VR] at hx
    subst hx
    refine ⟨.string .empty, w, ?_, .same hok (by simp only [VR]; exact ⟨_, rfl, rfl, Nat.zero_le _⟩)⟩
    rw [run_convert_bytes_string w src dst _ none 0 0 hus (u8_of hT hel) hud]
    rfl
  · split at h <;> (try (cases h; done))
    rename_i hstd
    split at h <;> (try (cases h; done))
    rename_i xs r vc hel hels
    rw [hstd] at hsd
    obtain ⟨rfl, _⟩ := sz_of_slice hsd
    simp only [TDok] at hdd
    subst hdd
    simp only [Option.some.injEq] at h
    subst h
    obtain ⟨ad, len, cap, cs, rfl, g1, g2, g3, g4, g5⟩ := elems_ok hok hels hvc hx
    have hcs : ∀ i, i < (xs ()).length → cs[i]? = some (.int .u8 (lk (lk (xs ()) i) 0).toInt) ∧ wfB .u8 (lk (lk (xs ()) i) 0).toInt = true := by
      intro i hi
      obtain ⟨u, cs', e1, ⟨rfl, e2⟩, e3⟩ := g4.2 i hi
      refine ⟨?_, e2⟩
      have : ((cs.drop (i * [Sh.int IntKind.u8].length)).take [Sh.int IntKind.u8].length)[0]? = some (.int .u8 (lk (lk (xs ()) i) 0).toInt) := by rw [e1]; rfl
      simpa using this
    have hbs : ∀ i, i < (xs ()).length → (UInt8.ofNat (lk (lk (xs ()) i) 0).toInt.toNat).toNat = (lk (lk (xs ()) i) 0).toInt := by
      intro i hi
      have := (wf_iff _ _).1 (hcs i hi).2
      simp [IntKind.min, IntKind.max, IntKind.signed, IntKind.bits] at this
      simp
      omega
    refine ⟨.string ⟨((xs ()).map fun c => UInt8.ofNat (lk c 0).toInt.toNat).toArray⟩, w, ?_, .same hok (by
      simp only [VR]
      refine ⟨_, rfl, by simp, ?_⟩
      rw [size_of_data]
      simp; omega)⟩
    rcases g5 with g5 | ⟨b, off, rfl, g5⟩
    · have hnil : xs () = [] := List.eq_nil_of_length_eq_zero (by omega)
      rw [hnil, g5, run_convert_bytes_string w src dst _ ad 0 cap hus (u8_of hT hel) hud]
      cases ad with
      | none => rfl
      | some b => rfl
    · have hl2 : ((xs ()).map fun c => UInt8.ofNat (lk c 0).toInt.toNat).length = len := by simp [g1]
      have := run_convert_bytes_back (P := P) w src dst _ ⟨b, off, none⟩ cap ((xs ()).map fun c => UInt8.ofNat (lk c 0).toInt.toNat) hus (u8_of hT hel) hud (fun j hj => by
        have hj' : j < (xs ()).length := by simpa using hj
        rw [Addr.add_lit, g5 j _ (hcs j hj').1]
        have e5 : lk (xs ()) j = (xs ())[j] := by simp [lk, List.getD, hj']
        have := hbs j hj'
        rw [e5] at this
        rw [e5]
        simp only [List.getElem_map]
        rw [this])
      rw [hl2] at this
      exact this
  · rename_i n lo len _
    split at h <;> (try (cases h; done))
    rename_i e' xs _ _ _ hsd2 hm hel
    have hsd2 := Nat.eq_of_beq_eq_true hsd2
    subst hsd2
    obtain ⟨rfl, _⟩ := sz_of_slice hdd
    simp only [Option.some.injEq] at h
    subst h
    have hx' := hx
    obtain ⟨p, hp, ho⟩ := hok.obj n _ hm
    simp only [VR] at hx
    rw [hp] at hx
    cases p with
    | none => exact (Bool.noConfusion ho.1)
    | some p =>
      obtain ⟨off, cap, rfl, g1, g2, g3, g4⟩ := hx
      obtain ⟨⟨cs, t, fz, hh, r1, r2⟩, hpin⟩ := ho
      have hpin := hpin rfl
      obtain ⟨fz', k1, k2, k3⟩ := frozen_world hh (r1.2.1 hpin)
      rw [hud] at hus
      cases hus
      refine ⟨.slice (some ⟨p.b, off, none⟩) (len ()) cap, w.freeze ⟨p.b, cs.size, none⟩ 1, ?_, ?_⟩
      · have hsh : w.shape? p.b = some (t, cs.size) := by simp [World.shape?, hh]
        simp only [convert, Sem.run_bind, run_under hud, Result.andThen_ok, run_under (u8_of hT hel), beq_self_eq_true, markStringish, run_shape, hsh, run_freeze, Sem.run_pure]
      · refine Post.turned hok hm trivial hp k1 trivial ⟨⟨cs, t, fz', k2, ⟨k3.unfz (by omega), .none hpin k3⟩, ?_⟩, fun _ => hpin⟩ hx'
        have hIo : ∀ b, I b → (w.freeze ⟨p.b, cs.size, none⟩ 1).heap[b]? = w.heap[b]? := fun b hb => k1.other b (by rintro rfl; exact hok.sep _ ⟨n, _, p, hm, trivial, hp, foot_b _ p⟩ hb)
        obtain ⟨r3, r4, r5, r6, r7⟩ := r2.2
        refine ⟨r2.1, r3, r4, r5, r6, fun i hi => ?_⟩
        have := r7 i hi
        rw [DatC.iff] at this ⊢
        intro k s hk
        obtain ⟨u, h1, h2⟩ := this k s hk
        refine ⟨u, ?_, Dat.keep hIo (fun _ h => h) _ _ _ h2⟩
        rw [cell_of_row _ _ _ cs t fz' k2]
        rwa [cell_of_row _ _ _ cs t fz hh] at h1
end
end Go.Am
/- A call, by its contract. -/
namespace Go.Am
set_option linter.all false
set_option linter.deprecated false
section
variable {P : Program} {o : Oper} {a : Act} {w w' : World} {I I' : Nat → Prop} {σ σ' τ : Sig} {M : MS} {key : Nat} {env : List AV} {T : TT}

/-! ### renaming -/
theorem kidx_ok : ∀ (ks : List Nat) (n i j : Nat), kidx ks n i = some j → i ≤ j ∧ ks[j - i]? = some n
  | [], _, _, _, h => by simp [kidx] at h
  | k :: ks, n, i, j, h => by
    unfold kidx at h
    split at h
    · rename_i hk
      simp only [Option.some.injEq] at h
      subst h
      exact ⟨Nat.le_refl _, by simp [Nat.eq_of_beq_eq_true hk]⟩
    · obtain ⟨h1, h2⟩ := kidx_ok ks n (i + 1) j h
      refine ⟨by omega, ?_⟩
      rw [show j - i = (j - (i + 1)) + 1 by omega]
      simpa using h2
/-- the canonical places -/
def canon (σ : Sig) (ks : List Nat) : Sig := fun i => match ks[i]? with | some k => σ k | none => none
theorem canon_kidx {ks : List Nat} {n i : Nat} (h : kidx ks n 0 = some i) : canon σ ks i = σ n := by
  obtain ⟨_, h2⟩ := kidx_ok ks n 0 i h
  unfold canon
  rw [show i - 0 = i by omega] at h2
  rw [h2]
mutual
theorem renC_ok {ks : List Nat} : ∀ {x y : AV} {v : Value}, renC ks x = some y → VR w I σ x v → VR w I (canon σ ks) y v
  | .ms n lo len, y, v, h, hv => by
    unfold renC at h
    split at h <;> (try (cases h; done))
    rename_i i hi
    simp only [Option.some.injEq] at h
    subst h
    simp only [VR] at hv ⊢
    rw [canon_kidx hi]; exact hv
  | .mp n off, y, v, h, hv => by
    unfold renC at h
    split at h <;> (try (cases h; done))
    rename_i i hi
    simp only [Option.some.injEq] at h
    subst h
    simp only [VR] at hv ⊢
    rw [canon_kidx hi]; exact hv
  | .me n ix off, y, v, h, hv => by
    unfold renC at h
    split at h <;> (try (cases h; done))
    rename_i i hi
    simp only [Option.some.injEq] at h
    subst h
    simp only [VR] at hv ⊢
    rw [canon_kidx hi]; exact hv
  | .ax n off c ix, y, v, h, hv => by
    unfold renC at h
    split at h <;> (try (cases h; done))
    rename_i i hi
    simp only [Option.some.injEq] at h
    subst h
    simp only [VR] at hv ⊢
    rw [canon_kidx hi]; exact hv
  | .agg cs, y, v, h, hv => by
    unfold renC at h
    split at h <;> (try (cases h; done))
    rename_i cs' h1
    simp only [Option.some.injEq] at h
    subst h
    simp only [VR] at hv ⊢
    obtain ⟨us, rfl, hv⟩ := hv
    exact ⟨us, rfl, renCs_ok h1 hv⟩
  | .tup cs, y, v, h, hv => by
    unfold renC at h
    split at h <;> (try (cases h; done))
    rename_i cs' h1
    simp only [Option.some.injEq] at h
    subst h
    simp only [VR] at hv ⊢
    obtain ⟨us, rfl, hv⟩ := hv
    exact ⟨us, rfl, renCs_ok h1 hv⟩
  | .fn f cs, y, v, h, hv => by
    unfold renC at h
    split at h <;> (try (cases h; done))
    rename_i cs' h1
    simp only [Option.some.injEq] at h
    subst h
    simp only [VR] at hv ⊢
    obtain ⟨us, rfl, hv⟩ := hv
    exact ⟨us, rfl, renCs_ok h1 hv⟩
  | .pt cs, y, v, h, hv => by
    unfold renC at h
    split at h <;> (try (cases h; done))
    rename_i cs' h1
    simp only [Option.some.injEq] at h
    subst h
    simp only [VR] at hv ⊢
    obtain ⟨b, off, rfl, hv⟩ := hv
    exact ⟨b, off, rfl, renCat_ok h1 hv⟩
  | .un, y, v, h, hv => by simp only [renC, Option.some.injEq] at h; subst h; simp only [VR]
  | .udf, y, v, h, hv => by simp only [renC, Option.some.injEq] at h; subst h; simpa only [VR] using hv
  | .int .., y, v, h, hv => by simp only [renC, Option.some.injEq] at h; subst h; simpa only [VR] using hv
  | .bool _, y, v, h, hv => by simp only [renC, Option.some.injEq] at h; subst h; simpa only [VR] using hv
  | .str _, y, v, h, hv => by simp only [renC, Option.some.injEq] at h; subst h; simpa only [VR] using hv
  | .nils, y, v, h, hv => by simp only [renC, Option.some.injEq] at h; subst h; simpa only [VR] using hv
  | .nilp, y, v, h, hv => by simp only [renC, Option.some.injEq] at h; subst h; simpa only [VR] using hv
  | .nilf, y, v, h, hv => by simp only [renC, Option.some.injEq] at h; subst h; simpa only [VR] using hv
  | .yl _, y, v, h, hv => by simp only [renC, Option.some.injEq] at h; subst h; simpa only [VR] using hv
  | .sl .., y, v, h, hv => by simp only [renC, Option.some.injEq] at h; subst h; simpa only [VR] using hv
theorem renCs_ok {ks : List Nat} : ∀ {xs ys : List AV} {vs : List Value}, renCs ks xs = some ys → VRs w I σ xs vs → VRs w I (canon σ ks) ys vs
  | [], ys, vs, h, hv => by simp only [renCs, Option.some.injEq] at h; subst h; simpa only [VRs] using hv
  | x :: xs, ys, vs, h, hv => by
    unfold renCs at h
    split at h <;> (try (cases h; done))
    rename_i y ys' h1 h2
    simp only [Option.some.injEq] at h
    subst h
    simp only [VRs] at hv ⊢
    obtain ⟨u, us, rfl, hu, hv⟩ := hv
    exact ⟨u, us, rfl, renC_ok h1 hu, renCs_ok h2 hv⟩
theorem renCat_ok {ks : List Nat} : ∀ {xs ys : List AV} {b off : Nat}, renCs ks xs = some ys → VRat w I σ xs b off → VRat w I (canon σ ks) ys b off
  | [], ys, b, off, h, hv => by simp only [renCs, Option.some.injEq] at h; subst h; simp only [VRat]
  | x :: xs, ys, b, off, h, hv => by
    unfold renCs at h
    split at h <;> (try (cases h; done))
    rename_i y ys' h1 h2
    simp only [Option.some.injEq] at h
    subst h
    simp only [VRat] at hv ⊢
    obtain ⟨⟨hb, u, hu, hx⟩, hv⟩ := hv
    exact ⟨⟨hb, u, hu, renC_ok h1 hx⟩, renCat_ok h2 hv⟩
end
/-- renamed back it is what it was -/
theorem back_kidx {ks : List Nat} {base n i : Nat} (h : kidx ks n 0 = some i) : back ks ks.length base i = n := by
  obtain ⟨_, h2⟩ := kidx_ok ks n 0 i h
  rw [show i - 0 = i by omega] at h2
  unfold back
  have hlt := (List.getElem?_eq_some_iff.1 h2).1
  have hb : Nat.blt i ks.length = true := by rw [Nat.blt]; exact Nat.ble_eq_true_of_le hlt
  rw [hb]
  simp [List.getD, h2]
mutual
theorem ren_renC {ks : List Nat} {base : Nat} : ∀ {x y : AV}, renC ks x = some y → ren (back ks ks.length base) y = x
  | .ms n lo len, y, h => by
    unfold renC at h
    split at h <;> (try (cases h; done))
    rename_i i hi
    simp only [Option.some.injEq] at h
    subst h
    simp only [ren, back_kidx hi]
  | .mp n off, y, h => by
    unfold renC at h
    split at h <;> (try (cases h; done))
    rename_i i hi
    simp only [Option.some.injEq] at h
    subst h
    simp only [ren, back_kidx hi]
  | .me n ix off, y, h => by
    unfold renC at h
    split at h <;> (try (cases h; done))
    rename_i i hi
    simp only [Option.some.injEq] at h
    subst h
    simp only [ren, back_kidx hi]
  | .ax n off c ix, y, h => by
    unfold renC at h
    split at h <;> (try (cases h; done))
    rename_i i hi
    simp only [Option.some.injEq] at h
    subst h
    simp only [ren, back_kidx hi]
  | .agg cs, y, h => by
    unfold renC at h
    split at h <;> (try (cases h; done))
    rename_i cs' h1
    simp only [Option.some.injEq] at h
    subst h
    simp only [ren, rens_renCs h1]
  | .tup cs, y, h => by
    unfold renC at h
    split at h <;> (try (cases h; done))
    rename_i cs' h1
    simp only [Option.some.injEq] at h
    subst h
    simp only [ren, rens_renCs h1]
  | .fn f cs, y, h => by
    unfold renC at h
    split at h <;> (try (cases h; done))
    rename_i cs' h1
    simp only [Option.some.injEq] at h
    subst h
    simp only [ren, rens_renCs h1]
  | .pt cs, y, h => by
    unfold renC at h
    split at h <;> (try (cases h; done))
    rename_i cs' h1
    simp only [Option.some.injEq] at h
    subst h
    simp only [ren, rens_renCs h1]
  | .un, y, h => by simp only [renC, Option.some.injEq] at h; subst h; simp only [ren]
  | .udf, y, h => by simp only [renC, Option.some.injEq] at h; subst h; simp only [ren]
  | .int .., y, h => by simp only [renC, Option.some.injEq] at h; subst h; simp only [ren]
  | .bool _, y, h => by simp only [renC, Option.some.injEq] at h; subst h; simp only [ren]
  | .str _, y, h => by simp only [renC, Option.some.injEq] at h; subst h; simp only [ren]
  | .nils, y, h => by simp only [renC, Option.some.injEq] at h; subst h; simp only [ren]
  | .nilp, y, h => by simp only [renC, Option.some.injEq] at h; subst h; simp only [ren]
  | .nilf, y, h => by simp only [renC, Option.some.injEq] at h; subst h; simp only [ren]
  | .yl _, y, h => by simp only [renC, Option.some.injEq] at h; subst h; simp only [ren]
  | .sl .., y, h => by simp only [renC, Option.some.injEq] at h; subst h; simp only [ren]
theorem rens_renCs {ks : List Nat} {base : Nat} : ∀ {xs ys : List AV}, renCs ks xs = some ys → rens (back ks ks.length base) ys = xs
  | [], ys, h => by simp only [renCs, Option.some.injEq] at h; subst h; rfl
  | x :: xs, ys, h => by
    unfold renCs at h
    split at h <;> (try (cases h; done))
    rename_i y ys' h1 h2
    simp only [Option.some.injEq] at h
    subst h
    simp only [rens, ren_renC h1, rens_renCs h2]
end
theorem MsR.some {p : Option (Option Pl)} {lo len : Nat} {v : Value} (h : MsR p lo len v) : ∃ q, p = some q := by
  cases p with
  | none => exact h.elim
  | some q => exact ⟨q, rfl⟩
theorem PtR.some {p : Option (Option Pl)} {v : Value} {f : Pl → Nat} (h : PtR p v f) : ∃ q, p = some q := by
  cases p with
  | none => exact h.elim
  | some q => exact ⟨q, rfl⟩
mutual
/-- under another name -/
theorem ren_ok {f : Nat → Nat} {n : Nat} (hf : ∀ j, j < n → ∀ p, σ j = some p → τ (f j) = some p) : ∀ {x : AV} {v : Value}, kltV n x = true → VR w I σ x v → VR w I τ (ren f x) v
  | .ms k lo len, v, h, hv => by
    simp only [kltV] at h
    simp only [ren, VR] at hv ⊢
    obtain ⟨q, hq⟩ := MsR.some hv
    rw [hf k (by rw [Nat.blt] at h; exact Nat.le_of_ble_eq_true h) q hq, ← hq]; exact hv
  | .mp k off, v, h, hv => by
    simp only [kltV] at h
    simp only [ren, VR] at hv ⊢
    obtain ⟨q, hq⟩ := PtR.some hv
    rw [hf k (by rw [Nat.blt] at h; exact Nat.le_of_ble_eq_true h) q hq, ← hq]; exact hv
  | .me k ix off, v, h, hv => by
    simp only [kltV] at h
    simp only [ren, VR] at hv ⊢
    obtain ⟨q, hq⟩ := PtR.some hv
    rw [hf k (by rw [Nat.blt] at h; exact Nat.le_of_ble_eq_true h) q hq, ← hq]; exact hv
  | .ax k off c ix, v, h, hv => by
    simp only [kltV] at h
    simp only [ren, VR] at hv ⊢
    obtain ⟨q, hq⟩ := PtR.some hv
    rw [hf k (by rw [Nat.blt] at h; exact Nat.le_of_ble_eq_true h) q hq, ← hq]; exact hv
  | .agg cs, v, h, hv => by
    simp only [kltV] at h
    simp only [ren, VR] at hv ⊢
    obtain ⟨us, rfl, hv⟩ := hv
    exact ⟨us, rfl, rens_ok hf h hv⟩
  | .tup cs, v, h, hv => by
    simp only [kltV] at h
    simp only [ren, VR] at hv ⊢
    obtain ⟨us, rfl, hv⟩ := hv
    exact ⟨us, rfl, rens_ok hf h hv⟩
  | .fn g cs, v, h, hv => by
    simp only [kltV] at h
    simp only [ren, VR] at hv ⊢
    obtain ⟨us, rfl, hv⟩ := hv
    exact ⟨us, rfl, rens_ok hf h hv⟩
  | .pt cs, v, h, hv => by
    simp only [kltV] at h
    simp only [ren, VR] at hv ⊢
    obtain ⟨b, off, rfl, hv⟩ := hv
    exact ⟨b, off, rfl, renat_ok hf h hv⟩
  | .un, _, _, _ => by simp only [ren, VR]
  | .udf, _, _, hv => by simpa only [ren, VR] using hv
  | .int .., _, _, hv => by simpa only [ren, VR] using hv
  | .bool _, _, _, hv => by simpa only [ren, VR] using hv
  | .str _, _, _, hv => by simpa only [ren, VR] using hv
  | .nils, _, _, hv => by simpa only [ren, VR] using hv
  | .nilp, _, _, hv => by simpa only [ren, VR] using hv
  | .nilf, _, _, hv => by simpa only [ren, VR] using hv
  | .yl _, _, _, hv => by simpa only [ren, VR] using hv
  | .sl .., _, _, hv => by simpa only [ren, VR] using hv
theorem rens_ok {f : Nat → Nat} {n : Nat} (hf : ∀ j, j < n → ∀ p, σ j = some p → τ (f j) = some p) : ∀ {xs : List AV} {vs : List Value}, kltVs n xs = true → VRs w I σ xs vs → VRs w I τ (rens f xs) vs
  | [], vs, _, hv => by simpa only [rens, VRs] using hv
  | x :: xs, vs, h, hv => by
    unfold kltVs at h
    split at h <;> (try (cases h; done))
    rename_i h1
    simp only [rens, VRs] at hv ⊢
    obtain ⟨u, us, rfl, hu, hv⟩ := hv
    exact ⟨u, us, rfl, ren_ok hf h1 hu, rens_ok hf h hv⟩
theorem renat_ok {f : Nat → Nat} {n : Nat} (hf : ∀ j, j < n → ∀ p, σ j = some p → τ (f j) = some p) : ∀ {xs : List AV} {b off : Nat}, kltVs n xs = true → VRat w I σ xs b off → VRat w I τ (rens f xs) b off
  | [], _, _, _, _ => by simp only [rens, VRat]
  | x :: xs, b, off, h, hv => by
    unfold kltVs at h
    split at h <;> (try (cases h; done))
    rename_i h1
    simp only [rens, VRat] at hv ⊢
    obtain ⟨⟨hb, u, hu, hx⟩, hv⟩ := hv
    exact ⟨⟨hb, u, hu, ren_ok hf h1 hx⟩, renat_ok hf h hv⟩
end
/-! ### what leads into no memory -/
mutual
theorem flatV_ok : ∀ {x : AV} {v : Value}, flatV x = true → VR w I σ x v → VR w I' σ x v
  | .sl .., _, h, _ => by simp [flatV] at h
  | .pt _, _, h, _ => by simp [flatV] at h
  | .agg cs, v, h, hv => by
    simp only [flatV] at h
    simp only [VR] at hv ⊢
    obtain ⟨us, rfl, hv⟩ := hv
    exact ⟨us, rfl, flatVs_ok h hv⟩
  | .tup cs, v, h, hv => by
    simp only [flatV] at h
    simp only [VR] at hv ⊢
    obtain ⟨us, rfl, hv⟩ := hv
    exact ⟨us, rfl, flatVs_ok h hv⟩
  | .fn f cs, v, h, hv => by
    simp only [flatV] at h
    simp only [VR] at hv ⊢
    obtain ⟨us, rfl, hv⟩ := hv
    exact ⟨us, rfl, flatVs_ok h hv⟩
  | .un, _, _, _ => by simp only [VR]
  | .udf, _, _, hv => by simpa only [VR] using hv
  | .int .., _, _, hv => by simpa only [VR] using hv
  | .bool _, _, _, hv => by simpa only [VR] using hv
  | .str _, _, _, hv => by simpa only [VR] using hv
  | .nils, _, _, hv => by simpa only [VR] using hv
  | .nilp, _, _, hv => by simpa only [VR] using hv
  | .nilf, _, _, hv => by simpa only [VR] using hv
  | .yl _, _, _, hv => by simpa only [VR] using hv
  | .ms .., _, _, hv => by simpa only [VR] using hv
  | .mp .., _, _, hv => by simpa only [VR] using hv
  | .me .., _, _, hv => by simpa only [VR] using hv
  | .ax .., _, _, hv => by simpa only [VR] using hv
theorem flatVs_ok : ∀ {xs : List AV} {vs : List Value}, flatVs xs = true → VRs w I σ xs vs → VRs w I' σ xs vs
  | [], vs, _, hv => by simpa only [VRs] using hv
  | x :: xs, vs, h, hv => by
    unfold flatVs at h
    split at h <;> (try (cases h; done))
    rename_i h1
    simp only [VRs] at hv ⊢
    obtain ⟨u, us, rfl, hu, hv⟩ := hv
    exact ⟨u, us, rfl, flatV_ok h1 hu, flatVs_ok h hv⟩
end
theorem flatSh_ok {b : Nat} : ∀ {e : List Sh} {j : Nat} {ds : List D} {o : Nat}, flatSh e = true → DatC w I e j ds b o → DatC w I' e j ds b o
  | [], _, _, _, _, _ => trivial
  | s :: ss, j, ds, o, h, hd => by
    simp only [DatC] at hd ⊢
    obtain ⟨⟨u, hu, hd1⟩, hd2⟩ := hd
    cases s with
    | int k => exact ⟨⟨u, hu, hd1⟩, flatSh_ok (by simpa [flatSh] using h) hd2⟩
    | bool => exact ⟨⟨u, hu, hd1⟩, flatSh_ok (by simpa [flatSh] using h) hd2⟩
    | str => exact ⟨⟨u, hu, hd1⟩, flatSh_ok (by simpa [flatSh] using h) hd2⟩
    | slice e => simp [flatSh] at h
    | ptr e => simp [flatSh] at h
    | other => simp [flatSh] at h
def flatO : MObj → Bool
  | .row _ e _ => flatSh e
  | .obj cs => flatVs cs
  | .imm .. => false
  | .dp .. => true
theorem flatO_ok {p : Option Pl} {x : MObj} (h : flatO x = true) (ho : OR w I σ p x) : OR w I' σ p x := by
  cases x with
  | imm nn e xs => simp [flatO] at h
  | row nn e xs =>
    cases p with
    | none => exact ho
    | some q =>
      obtain ⟨⟨cs, t, fz, hh, r1, r2, r3, r4, r5, r6, r7⟩, hp⟩ := ho
      exact ⟨⟨cs, t, fz, hh, r1, r2, r3, r4, r5, r6, fun i hi => flatSh_ok h (r7 i hi)⟩, hp⟩
  | obj cs =>
    cases p with
    | none => exact ho
    | some q =>
      obtain ⟨us, t, fz, hh, hf, hv⟩ := ho
      exact ⟨us, t, fz, hh, hf, flatVs_ok h hv⟩
  | dp e j xs => cases p <;> exact ho
theorem flatM_ok : ∀ {M : MS} {k : Nat} {x : MObj}, flatM M = true → mget M k = some x → flatO x = true
  | [], _, _, _, h => by simp [mget] at h
  | (k', y) :: M, k, x, h, hk => by
    unfold flatM at h
    split at h <;> (try (cases h; done))
    · rename_i heq; cases heq
    · rename_i a nn e xs M' heq
      simp only [List.cons.injEq, Prod.mk.injEq] at heq
      obtain ⟨⟨rfl, rfl⟩, rfl⟩ := heq
      split at h <;> (try (cases h; done))
      rename_i h1
      simp only [mget] at hk
      split at hk
      · cases hk; exact h1
      · exact flatM_ok h hk
    · rename_i a cs M' heq
      simp only [List.cons.injEq, Prod.mk.injEq] at heq
      obtain ⟨⟨rfl, rfl⟩, rfl⟩ := heq
      split at h <;> (try (cases h; done))
      rename_i h1
      simp only [mget] at hk
      split at hk
      · cases hk; exact h1
      · exact flatM_ok h hk
    · rename_i a e j xs M' heq
      simp only [List.cons.injEq, Prod.mk.injEq] at heq
      obtain ⟨⟨rfl, rfl⟩, rfl⟩ := heq
      simp only [mget] at hk
      split at hk
      · cases hk; rfl
      · exact flatM_ok h hk
end
end Go.Am
/- A call, by its contract: the step. -/
namespace Go.Am
set_option linter.all false
set_option linter.deprecated false
section
variable {P : Program} {o : Oper} {a : Act} {w w' : World} {I I' : Nat → Prop} {σ σ' τ : Sig} {M : MS} {key : Nat} {env : List AV} {T : TT}

/-- a function called with values: it hands back a value, and a world, of which R holds -/
def Invokes (P : Program) (f : FuncId) (vs : List Value) (w : World) (R : Value → World → Prop) : Prop :=
  ∀ (o : Oper) (a : Act) (K : Act → World → Prop) (Q : Exit → Act → World → Prop), (∀ v w', R v w' → K (a.put o.dst v) w') → o.upon P a K Q ((callFunc f vs.toArray).run P w)
/-- what a call does, of the canonical objects 0 .. m - 1 -/
def Tri (P : Program) (f : FuncId) (args : List AV) (M : MS) (m : Nat) (val : AV) (upd : List (Nat × Option MObj)) : Prop :=
  ∀ (w : World) (I : Nat → Prop) (σ : Sig) (vs : List Value), Ok w I σ M → (∀ k, m ≤ k → σ k = none) → VRs w I σ args vs →
    Invokes P f vs w fun v w' => ∃ I' σ', VR w' I' σ' val v ∧ Ok w' I' σ' (mapply M upd) ∧ Ext w I σ M w' I' σ' (mapply M upd)
def NTri (P : Program) (f : FuncId) (args : List AV) (M : MS) (m : Nat) (R : AV → List (Nat × Option MObj) → Prop) : Prop :=
  ∀ (w : World) (I : Nat → Prop) (σ : Sig) (vs : List Value), Ok w I σ M → (∀ k, m ≤ k → σ k = none) → VRs w I σ args vs →
    Invokes P f vs w fun v w' => ∃ val upd, R val upd ∧ ∃ I' σ', VR w' I' σ' val v ∧ Ok w' I' σ' (mapply M upd) ∧ Ext w I σ M w' I' σ' (mapply M upd)
structure CSound (P : Program) (f : FuncId) (C : Contract) : Prop where
  det : ∀ args M r, C.fn args M = some r → (∀ p ∈ r.vc, p ()) → Tri P f args M M.length r.val r.objs
  nd : ∀ args M r, C.nfn args M = some r → (∀ p ∈ r.pre, p ()) → NTri P f args M M.length fun val upd => ∃ d, r.ok d ∧ r.res d = (val, upd)
theorem Invokes.mono {f : FuncId} {vs : List Value} {R R' : Value → World → Prop} (h : Invokes P f vs w R) (hR : ∀ v w', R v w' → R' v w') : Invokes P f vs w R' :=
  fun o a K Q hK => h o a K Q fun v w' hr => hK v w' (hR v w' hr)
theorem modeArgs_ok (hok : Ok w I σ M) : ∀ (ms : List Mode) (vs vs' : List AV) (l : List Nat) (vc : List (Unit → Prop)) (us : List Value), modeArgs M ms vs = some (vs', l, vc) → (∀ p ∈ vc, p ()) → VRs w I σ vs us → VRs w (Also I (Lent σ l)) σ vs' us ∧ LentOk M l
  | [], [], vs', l, vc, us, h, _, hv => by
    simp only [modeArgs, Option.some.injEq, Prod.mk.injEq] at h
    obtain ⟨rfl, rfl, rfl⟩ := h
    exact ⟨VRs.keep (.also _) _ _ hv, fun _ h => by cases h⟩
  | [], _ :: _, _, _, _, _, h, _, _ => by simp [modeArgs] at h
  | .ro :: _, [], _, _, _, _, h, _, _ => by simp [modeArgs] at h
  | .mut :: _, [], _, _, _, _, h, _, _ => by simp [modeArgs] at h
  | .ro :: ms, v :: vs, vs', l, vc, us, h, hvc, hv => by
    unfold modeArgs at h
    split at h <;> (try (cases h; done))
    rename_i v1 r1 c1 vs1 r2 c2 h1 h2
    simp only [Option.some.injEq, Prod.mk.injEq] at h
    obtain ⟨rfl, rfl, rfl⟩ := h
    simp only [VRs] at hv
    obtain ⟨u, us', rfl, hu, hv⟩ := hv
    obtain ⟨g1, g2⟩ := ro_ok hok v v1 r1 c1 u h1 (fun p hp => hvc p (List.mem_append_left _ hp)) hu
    obtain ⟨g3, g4⟩ := modeArgs_ok hok ms vs vs1 r2 c2 us' h2 (fun p hp => hvc p (List.mem_append_right _ hp)) hv
    refine ⟨?_, fun k hk => (List.mem_append.1 hk).elim (g2 k) (g4 k)⟩
    simp only [VRs]
    exact ⟨u, us', rfl, VR.keep (.more fun b ⟨k, hk, r⟩ => ⟨k, List.mem_append_left _ hk, r⟩) _ _ g1, VRs.keep (.more fun b ⟨k, hk, r⟩ => ⟨k, List.mem_append_right _ hk, r⟩) _ _ g3⟩
  | .mut :: ms, v :: vs, vs', l, vc, us, h, hvc, hv => by
    unfold modeArgs at h
    split at h <;> (try (cases h; done))
    rename_i vs1 r2 c2 h2
    simp only [Option.some.injEq, Prod.mk.injEq] at h
    obtain ⟨rfl, rfl, rfl⟩ := h
    simp only [VRs] at hv
    obtain ⟨u, us', rfl, hu, hv⟩ := hv
    obtain ⟨g3, g4⟩ := modeArgs_ok hok ms vs vs1 r2 c2 us' h2 hvc hv
    refine ⟨?_, g4⟩
    simp only [VRs]
    exact ⟨u, us', rfl, VR.keep (.also _) _ _ hu, g3⟩
/-- the objects that a call is handed -/
theorem subM_ok {ks : List Nat} : ∀ (l : List Nat) (i : Nat) (S : MS), subM M ks l i = some S → S.length = l.length ∧ ∀ j, mget S j = (if i ≤ j then (match l[j - i]? with
      | some k => (match mget M k with | some (.obj cs) => (renCs ks cs).map .obj | x => x)
      | none => none) else none) ∧ (∀ k, l[j - i]? = some k → i ≤ j → ∃ x, mget M k = some x ∧ ∀ cs, x = .obj cs → ∃ cs', renCs ks cs = some cs')
  | [], i, S, h => by
    simp only [subM, Option.some.injEq] at h
    subst h
    exact ⟨rfl, fun j => ⟨by simp [mget], by simp⟩⟩
  | k :: l, i, S, h => by
    unfold subM at h
    have step : ∀ (y : MObj) (S' : MS), subM M ks l (i + 1) = some S' → (∃ x, mget M k = some x ∧ (∀ cs, x = .obj cs → ∃ cs', renCs ks cs = some cs') ∧ (match mget M k with | some (.obj cs) => (renCs ks cs).map MObj.obj | x => x) = some y) → S = (i, y) :: S' →
        (S.length = (k :: l).length ∧ ∀ j, mget S j = (if i ≤ j then (match (k :: l)[j - i]? with
      | some k => (match mget M k with | some (.obj cs) => (renCs ks cs).map .obj | x => x)
      | none => none) else none) ∧ (∀ k', (k :: l)[j - i]? = some k' → i ≤ j → ∃ x, mget M k' = some x ∧ ∀ cs, x = .obj cs → ∃ cs', renCs ks cs = some cs')) := by
      rintro y S' hS ⟨x, hx, hcs, hy⟩ rfl
      obtain ⟨ih1, ih2⟩ := subM_ok l (i + 1) S' hS
      refine ⟨by simp [ih1], fun j => ?_⟩
      obtain ⟨g1, g2⟩ := ih2 j
      simp only [mget]
      by_cases hj : i = j
      · subst hj
        refine ⟨?_, fun k' hk' _ => ?_⟩
        · simp only [Nat.beq_refl, Nat.le_refl, if_true, Nat.sub_self, List.getElem?_cons_zero]
          rw [hy]
        · simp only [Nat.sub_self, List.getElem?_cons_zero, Option.some.injEq] at hk'
          subst hk'
          exact ⟨x, hx, hcs⟩
      · have hb : Nat.beq i j = false := by rw [← Bool.not_eq_true]; intro h; exact hj (Nat.eq_of_beq_eq_true h)
        rw [hb]
        simp only
        by_cases hle : i ≤ j
        · rw [g1, if_pos (by omega), if_pos hle]
          rw [show j - i = (j - (i + 1)) + 1 by omega]
          simp only [List.getElem?_cons_succ, true_and]
          exact fun k' hk' _ => g2 k' hk' (by omega)
        · rw [g1, if_neg (by omega), if_neg hle]
          exact ⟨rfl, fun _ _ h => absurd h hle⟩
    split at h
    · rename_i cs hm
      split at h <;> (try (cases h; done))
      rename_i cs' S' h1 h2
      simp only [Option.some.injEq] at h
      exact step _ S' h2 ⟨_, hm, fun c e => by cases e; exact ⟨_, h1⟩, by rw [hm]; simp [h1]⟩ h.symm
    · rename_i y hne hm
      split at h <;> (try (cases h; done))
      rename_i S' h2
      simp only [Option.some.injEq] at h
      refine step y S' h2 ⟨y, hm, fun c e => (hne c e).elim, ?_⟩ h.symm
      rw [hm]
      cases y with
      | obj c => exact (hne c rfl).elim
      | row _ _ _ => rfl
      | imm _ _ _ => rfl
      | dp _ _ _ => rfl
    · cases h
theorem nodupB_iff : ∀ {l : List Nat}, nodupB l = true → l.Nodup
  | [], _ => List.nodup_nil
  | k :: ks, h => by
    unfold nodupB at h
    split at h <;> (try (cases h; done))
    rename_i h1
    refine List.nodup_cons.2 ⟨fun hk => ?_, nodupB_iff h⟩
    rw [(nmem_iff _ _).2 hk] at h1
    cases h1
theorem disj_iff : ∀ {k l : List Nat}, disj k l = true → ∀ x ∈ k, x ∉ l
  | [], _, _, _, h => by cases h
  | k :: ks, l, h, x, hx => by
    unfold disj at h
    split at h <;> (try (cases h; done))
    rename_i h1
    rcases List.mem_cons.1 hx with rfl | hx
    · intro hl
      rw [(nmem_iff _ _).2 hl] at h1
      cases h1
    · exact disj_iff h x hx
/-- updates under other names -/
theorem mapply_ren {f : Nat → Nat} {n : Nat} (hf : ∀ i j, i < n → j < n → f i = f j → i = j) : ∀ (us : List (Nat × Option MObj)) (N S : MS), kltU n us = true → ∀ j,
    (j < n → ((∃ u, (j, u) ∈ us) → mget (mapply N (renUpd f us)) (f j) = (mget (mapply S us) j).map (renO f)) ∧ ((¬ ∃ u, (j, u) ∈ us) → mget (mapply N (renUpd f us)) (f j) = mget N (f j) ∧ mget (mapply S us) j = mget S j)) ∧
    ((∀ i, i < n → f i ≠ j) → mget (mapply N (renUpd f us)) j = mget N j)
  | [], N, S, _, j => ⟨fun _ => ⟨fun ⟨_, hu⟩ => (by cases hu), fun _ => ⟨rfl, rfl⟩⟩, fun _ => rfl⟩
  | (k, x) :: us, N, S, h, j => by
    unfold kltU at h
    split at h <;> (try (cases h; done))
    rename_i hk _
    have hk : k < n := by rw [Nat.blt] at hk; exact Nat.le_of_ble_eq_true hk
    obtain ⟨N', S', e1, e2, e3⟩ : ∃ N' S', mapply N (renUpd f ((k, x) :: us)) = mapply N' (renUpd f us) ∧ mapply S ((k, x) :: us) = mapply S' us ∧
        (∀ i, mget N' i = if f k = i then x.map (renO f) else mget N i) ∧ (∀ i, mget S' i = if k = i then x else mget S i) := by
      cases x with
      | none => exact ⟨mdel N (f k), mdel S k, rfl, rfl, fun i => by rw [mget_mdel]; rfl, fun i => mget_mdel _ _ _⟩
      | some y => exact ⟨mset N (f k) (renO f y), mset S k y, rfl, rfl, fun i => by rw [mget_mset]; rfl, fun i => mget_mset _ _ _ _⟩
    obtain ⟨ih1, ih2⟩ := mapply_ren hf us N' S' h j
    rw [e1, e2]
    refine ⟨fun hj => ?_, fun hne => ?_⟩
    · obtain ⟨a1, a2⟩ := ih1 hj
      by_cases hu : ∃ u, (j, u) ∈ us
      · refine ⟨fun _ => a1 hu, fun hn => ?_⟩
        obtain ⟨u, hu⟩ := hu
        exact (hn ⟨u, List.mem_cons_of_mem _ hu⟩).elim
      · obtain ⟨b1, b2⟩ := a2 hu
        rw [b1, b2, e3.1, e3.2]
        by_cases hkj : k = j
        · subst hkj
          refine ⟨fun _ => by rw [if_pos rfl, if_pos rfl], fun hn => (hn ⟨x, List.mem_cons_self⟩).elim⟩
        · have hfk : f k ≠ f j := fun e => hkj (hf k j hk hj e)
          rw [if_neg hfk, if_neg hkj]
          refine ⟨fun ⟨u, hu'⟩ => ?_, fun _ => ⟨rfl, rfl⟩⟩
          rcases List.mem_cons.1 hu' with e | e
          · cases e; exact (hkj rfl).elim
          · exact (hu ⟨u, e⟩).elim
    · rw [ih2 hne, e3.1, if_neg (hne k hk)]
theorem back_lt {ks : List Nat} {base j k : Nat} (h : ks[j]? = some k) : back ks ks.length base j = k := by
  have hlt := (List.getElem?_eq_some_iff.1 h).1
  unfold back
  have hb : Nat.blt j ks.length = true := by rw [Nat.blt]; exact Nat.ble_eq_true_of_le hlt
  rw [hb]
  simp [List.getD, h]
theorem back_ge {ks : List Nat} {base j : Nat} (h : ks.length ≤ j) : back ks ks.length base j = base + (j - ks.length) := by
  unfold back
  have hb : Nat.blt j ks.length = false := by
    rw [← Bool.not_eq_true]; intro h'; rw [Nat.blt] at h'; have := Nat.le_of_ble_eq_true h'; omega
  rw [hb]
mutual
theorem kltV_renC {ks : List Nat} : ∀ {x y : AV}, renC ks x = some y → kltV (ks.length + 8) y = true
  | .ms n lo len, y, h => by
    unfold renC at h
    split at h <;> (try (cases h; done))
    rename_i i hi
    simp only [Option.some.injEq] at h
    subst h
    have := (List.getElem?_eq_some_iff.1 (kidx_ok ks n 0 i hi).2).1
    simp only [kltV, Nat.blt]; exact Nat.ble_eq_true_of_le (by omega)
  | .mp n off, y, h => by
    unfold renC at h
    split at h <;> (try (cases h; done))
    rename_i i hi
    simp only [Option.some.injEq] at h
    subst h
    have := (List.getElem?_eq_some_iff.1 (kidx_ok ks n 0 i hi).2).1
    simp only [kltV, Nat.blt]; exact Nat.ble_eq_true_of_le (by omega)
  | .me n ix off, y, h => by
    unfold renC at h
    split at h <;> (try (cases h; done))
    rename_i i hi
    simp only [Option.some.injEq] at h
    subst h
    have := (List.getElem?_eq_some_iff.1 (kidx_ok ks n 0 i hi).2).1
    simp only [kltV, Nat.blt]; exact Nat.ble_eq_true_of_le (by omega)
  | .ax n off c ix, y, h => by
    unfold renC at h
    split at h <;> (try (cases h; done))
    rename_i i hi
    simp only [Option.some.injEq] at h
    subst h
    have := (List.getElem?_eq_some_iff.1 (kidx_ok ks n 0 i hi).2).1
    simp only [kltV, Nat.blt]; exact Nat.ble_eq_true_of_le (by omega)
  | .agg cs, y, h => by
    unfold renC at h
    split at h <;> (try (cases h; done))
    rename_i cs' h1
    simp only [Option.some.injEq] at h
    subst h
    exact kltVs_renCs h1
  | .tup cs, y, h => by
    unfold renC at h
    split at h <;> (try (cases h; done))
    rename_i cs' h1
    simp only [Option.some.injEq] at h
    subst h
    exact kltVs_renCs h1
  | .fn f cs, y, h => by
    unfold renC at h
    split at h <;> (try (cases h; done))
    rename_i cs' h1
    simp only [Option.some.injEq] at h
    subst h
    exact kltVs_renCs h1
  | .pt cs, y, h => by
    unfold renC at h
    split at h <;> (try (cases h; done))
    rename_i cs' h1
    simp only [Option.some.injEq] at h
    subst h
    exact kltVs_renCs h1
  | .un, y, h => by simp only [renC, Option.some.injEq] at h; subst h; rfl
  | .udf, y, h => by simp only [renC, Option.some.injEq] at h; subst h; rfl
  | .int .., y, h => by simp only [renC, Option.some.injEq] at h; subst h; rfl
  | .bool _, y, h => by simp only [renC, Option.some.injEq] at h; subst h; rfl
  | .str _, y, h => by simp only [renC, Option.some.injEq] at h; subst h; rfl
  | .nils, y, h => by simp only [renC, Option.some.injEq] at h; subst h; rfl
  | .nilp, y, h => by simp only [renC, Option.some.injEq] at h; subst h; rfl
  | .nilf, y, h => by simp only [renC, Option.some.injEq] at h; subst h; rfl
  | .yl _, y, h => by simp only [renC, Option.some.injEq] at h; subst h; rfl
  | .sl .., y, h => by simp only [renC, Option.some.injEq] at h; subst h; rfl
theorem kltVs_renCs {ks : List Nat} : ∀ {xs ys : List AV}, renCs ks xs = some ys → kltVs (ks.length + 8) ys = true
  | [], ys, h => by simp only [renCs, Option.some.injEq] at h; subst h; rfl
  | x :: xs, ys, h => by
    unfold renCs at h
    split at h <;> (try (cases h; done))
    rename_i y ys' h1 h2
    simp only [Option.some.injEq] at h
    subst h
    simp only [kltVs, kltV_renC h1, kltVs_renCs h2]
end
theorem kltU_mem {n : Nat} : ∀ {us : List (Nat × Option MObj)}, kltU n us = true → ∀ k x, (k, x) ∈ us → k < n ∧ ∀ cs, x = some (.obj cs) → kltVs n cs = true
  | [], _, _, _, h => by cases h
  | (k', y) :: us, h, k, x, hm => by
    unfold kltU at h
    split at h <;> (try (cases h; done))
    rename_i h1 h2
    rcases List.mem_cons.1 hm with e | e
    · cases e
      refine ⟨by rw [Nat.blt] at h1; exact Nat.le_of_ble_eq_true h1, fun cs e => ?_⟩
      subst e
      exact h2
    · exact kltU_mem h k x e
theorem mapply_val {S : MS} : ∀ {us : List (Nat × Option MObj)} {j : Nat} {y : MObj}, (∃ u, (j, u) ∈ us) → mget (mapply S us) j = some y → (j, some y) ∈ us
  | [], _, _, ⟨_, h⟩, _ => by cases h
  | (k, x) :: us, j, y, h, hy => by
    obtain ⟨S', e2, e4⟩ : ∃ S', mapply S ((k, x) :: us) = mapply S' us ∧ (∀ i, mget S' i = if k = i then x else mget S i) := by
      cases x with
      | none => exact ⟨mdel S k, rfl, fun i => mget_mdel _ _ _⟩
      | some y => exact ⟨mset S k y, rfl, fun i => mget_mset _ _ _ _⟩
    rw [e2] at hy
    by_cases hu : ∃ u, (j, u) ∈ us
    · exact List.mem_cons_of_mem _ (mapply_val hu hy)
    · obtain ⟨u, hu'⟩ := h
      rcases List.mem_cons.1 hu' with e | e
      · simp only [Prod.mk.injEq] at e
        obtain ⟨rfl, rfl⟩ := e
        have : ∀ (us : List (Nat × Option MObj)) (S : MS), (¬ ∃ u, (j, u) ∈ us) → mget (mapply S us) j = mget S j := by
          intro us
          induction us with
          | nil => intros; rfl
          | cons p us ih =>
            intro S hn
            obtain ⟨k', x'⟩ := p
            have hne : k' ≠ j := by rintro rfl; exact hn ⟨_, List.mem_cons_self⟩
            have hn' : ¬ ∃ u, (j, u) ∈ us := fun ⟨u, h⟩ => hn ⟨u, List.mem_cons_of_mem _ h⟩
            cases x' with
            | none => simp only [mapply]; rw [ih _ hn', mget_mdel, if_neg hne]
            | some y' => simp only [mapply]; rw [ih _ hn', mget_mset, if_neg hne]
        rw [this us S' hu, e4, if_pos rfl] at hy
        subst hy
        exact List.mem_cons_self
      · exact (hu ⟨u, e⟩).elim
theorem call_gen (hok : Ok w I σ M) (hfree : ∀ k, key ≤ k → k < key + 8 → σ k = none) {f : FuncId} {modes : List Mode} {args : List AV} {vs : List Value} {args1 : List AV} {lent : List Nat} {vc0 : List (Unit → Prop)}
    (hmode : modeArgs M modes args = some (args1, lent, vc0)) (hvc0 : ∀ p ∈ vc0, p ()) {cargs : List AV} {cM : MS} (hca : renCs (reach M 40 0 (keysOfs args1 [])) args1 = some cargs) (hcM : subM M (reach M 40 0 (keysOfs args1 [])) (reach M 40 0 (keysOfs args1 [])) 0 = some cM)
    (hnd : nodupB (reach M 40 0 (keysOfs args1 [])) = true) (hdj : disj lent (reach M 40 0 (keysOfs args1 [])) = true) (hv : VRs w I σ args vs) {R : AV → List (Nat × Option MObj) → Prop} (hC : NTri P f cargs cM cM.length R) :
    Invokes P f vs w fun v w' => ∃ val objs, R val objs ∧ (∀ e, callRes M key (reach M 40 0 (keysOfs args1 [])) lent cM val objs = some e → Post w I σ M key e.val (mapply M e.upd) v w') := by
  generalize hks : reach M 40 0 (keysOfs args1 []) = ks at *
  have hnd := nodupB_iff hnd
  have hdj := disj_iff hdj
  obtain ⟨hv1, hlent⟩ := modeArgs_ok hok _ _ _ _ _ _ hmode hvc0 hv
  obtain ⟨hSlen, hS⟩ := subM_ok ks 0 cM hcM
  obtain ⟨hokF, hextF, hownF⟩ := hok.freeze hlent
  -- the objects that are handed over
  have hlive : ∀ k ∈ ks, ∃ x, mget M k = some x := fun k hk => by
    obtain ⟨j, hj⟩ := List.mem_iff_getElem?.1 hk
    obtain ⟨x, hx, _⟩ := (hS j).2 k (by simpa using hj) (Nat.zero_le _)
    exact ⟨x, hx⟩
  have hcget : ∀ j y, mget cM j = some y → ∃ k x, ks[j]? = some k ∧ mget M k = some x ∧ (match x with | .obj cs => ∃ cs', renCs ks cs = some cs' ∧ y = .obj cs' | x => y = x) := fun j y hj => by
    rw [(hS j).1, if_pos (Nat.zero_le _), Nat.sub_zero] at hj
    split at hj <;> (try (cases hj; done))
    rename_i k hk
    cases hm : mget M k with
    | none => rw [hm] at hj; cases hj
    | some x =>
      rw [hm] at hj
      refine ⟨k, x, hk, hm, ?_⟩
      cases x with
      | obj cs =>
        simp only [Option.map_eq_some_iff] at hj
        obtain ⟨cs', h1, h2⟩ := hj
        exact ⟨cs', h1, h2.symm⟩
      | row _ _ _ => simpa using hj.symm
      | imm _ _ _ => simpa using hj.symm
      | dp _ _ _ => simpa using hj.symm
  have hcan : ∀ j k, ks[j]? = some k → canon σ ks j = σ k := fun j k hk => by unfold canon; rw [hk]
  have howns : ∀ {x y : MObj}, (match x with | .obj cs => ∃ cs', renCs ks cs = some cs' ∧ y = .obj cs' | x => y = x) → (owns y ↔ owns x) := by
    intro x y hxy
    cases x with
    | obj cs => obtain ⟨cs', _, rfl⟩ := hxy; exact Iff.rfl
    | row _ _ _ => simp only at hxy; subst hxy; exact Iff.rfl
    | imm _ _ _ => simp only at hxy; subst hxy; exact Iff.rfl
    | dp _ _ _ => simp only at hxy; subst hxy; exact Iff.rfl
  have hfoot : ∀ {x y : MObj} {p : Pl} {b : Nat}, (match x with | .obj cs => ∃ cs', renCs ks cs = some cs' ∧ y = .obj cs' | x => y = x) → foot y p b → foot x p b := by
    intro x y p b hxy hf
    cases x with
    | obj cs => obtain ⟨cs', _, rfl⟩ := hxy; exact hf
    | row _ _ _ => simp only at hxy; subst hxy; exact hf
    | imm _ _ _ => simp only at hxy; subst hxy; exact hf
    | dp _ _ _ => simp only at hxy; subst hxy; exact hf
  have hfoot2 : ∀ {x y : MObj} {p : Pl} {b : Nat}, (match x with | .obj cs => ∃ cs', renCs ks cs = some cs' ∧ y = .obj cs' | x => y = x) → foot x p b → foot y p b := by
    intro x y p b hxy hf
    cases x with
    | obj cs => obtain ⟨cs', _, rfl⟩ := hxy; exact hf
    | row _ _ _ => simp only at hxy; subst hxy; exact hf
    | imm _ _ _ => simp only at hxy; subst hxy; exact hf
    | dp _ _ _ => simp only at hxy; subst hxy; exact hf
  have hOC : ∀ b, Owned (canon σ ks) cM b → ∃ k x p, k ∈ ks ∧ mget M k = some x ∧ owns x ∧ σ k = some (some p) ∧ foot x p b := by
    rintro b ⟨j, y, p, hj, hy, hs, hf⟩
    obtain ⟨k, x, hk, hm, hxy⟩ := hcget j y hj
    exact ⟨k, x, p, List.mem_of_getElem? hk, hm, (howns hxy).1 hy, by rw [← hcan j k hk]; exact hs, hfoot hxy hf⟩
  have hOM : ∀ b, Owned (canon σ ks) cM b → Owned σ M b := fun b hb => by
    obtain ⟨k, x, p, _, r⟩ := hOC b hb
    exact ⟨k, x, p, r⟩
  have hlentI : ∀ b, Lent σ lent b → I b ∨ Owned σ M b := by
    rintro b ⟨k, hk, p, hp, rfl⟩
    obtain ⟨nn, e, xs, h | h⟩ := hlent k hk
    · exact .inr ⟨k, _, p, h, trivial, hp, foot_b _ p⟩
    · obtain ⟨q, hq, ho⟩ := hok.obj k _ h
      rw [hp] at hq; cases hq
      exact .inl ho.2
  have hok1 : Ok w (Also I (Lent σ lent)) (canon σ ks) cM := by
    refine ⟨hokF.lt, fun j y hj => ?_, fun b hb hi => ?_, fun j j' y y' p p' b h1 h2 o1 o2 s1 s2 e f => ?_⟩
    · obtain ⟨k, x, hk, hm, hxy⟩ := hcget j y hj
      obtain ⟨p, hp, ho⟩ := hok.obj k x hm
      refine ⟨p, by rw [hcan j k hk]; exact hp, ?_⟩
      have ho' := OR.keep (Keep.also (w := w) (I := I) (σ := σ) (Lent σ lent)) (fun _ _ _ _ => rfl) ho
      cases x with
      | obj cs =>
        obtain ⟨cs', h1, rfl⟩ := hxy
        cases p with
        | none => exact ho'
        | some q =>
          obtain ⟨us, t, fz, hh, hf, hvs⟩ := ho'
          exact ⟨us, t, fz, hh, hf, renCs_ok h1 hvs⟩
      | row _ _ _ => simp only at hxy; subst hxy; cases p <;> exact ho'
      | imm _ _ _ => simp only at hxy; subst hxy; cases p <;> exact ho'
      | dp _ _ _ => simp only at hxy; subst hxy; cases p <;> exact ho'
    · obtain ⟨k, x, p, hk, hm, hx, hs, hf⟩ := hOC b hb
      rcases hi with hi | ⟨k', hk', p', hp', e⟩
      · exact hok.sep _ ⟨k, x, p, hm, hx, hs, hf⟩ hi
      · subst e
        obtain ⟨nn, e2, xs, h | h⟩ := hlent k' hk'
        · have := hok.inj k k' x _ p p' _ hm h hx trivial hs hp' hf (foot_b _ p')
          subst this
          exact hdj k hk' hk
        · obtain ⟨q, hq, ho⟩ := hok.obj k' _ h
          rw [hp'] at hq; cases hq
          exact hok.sep _ ⟨k, x, p, hm, hx, hs, hf⟩ ho.2
    · obtain ⟨k, x, hk, hm, hxy⟩ := hcget j y h1
      obtain ⟨k', x', hk', hm', hxy'⟩ := hcget j' y' h2
      rw [hcan j k hk] at s1
      rw [hcan j' k' hk'] at s2
      have := hok.inj k k' x x' p p' b hm hm' ((howns hxy).1 o1) ((howns hxy').1 o2) s1 s2 (hfoot hxy e) (hfoot hxy' f)
      subst this
      have hj := (List.getElem?_eq_some_iff.1 hk).1
      exact (List.getElem?_inj hj hnd).1 (hk.trans hk'.symm)
  have hunset : ∀ k, cM.length ≤ k → canon σ ks k = none := fun k hk => by
    unfold canon
    rw [List.getElem?_eq_none (by omega)]
  have hcv := renCs_ok hca hv1
  refine (hC w _ _ vs hok1 hunset hcv).mono fun v w' hp => ?_
  obtain ⟨val, objs, hR, I', τ, hval, hok', hext⟩ := hp
  refine ⟨val, objs, hR, fun e he => ?_⟩
  unfold callRes at he
  split at he <;> (try (cases he; done))
  rename_i hkl1 hkl2
  simp only [Option.some.injEq] at he
  subst he
  -- behind the call
  let F := back ks ks.length key
  let σ2 : Sig := fun k => if key ≤ k ∧ k < key + 8 then τ (ks.length + (k - key)) else σ k
  have hkset : ∀ k ∈ ks, ∃ p, σ k = some p := fun k hk => by
    obtain ⟨x, hx⟩ := hlive k hk
    obtain ⟨p, hp, _⟩ := hok.obj k x hx
    exact ⟨p, hp⟩
  have hkout : ∀ k p, σ k = some p → ¬ (key ≤ k ∧ k < key + 8) := fun k p hp hh => by rw [hfree k hh.1 hh.2] at hp; cases hp
  have hσ2 : ∀ k p, σ k = some p → σ2 k = some p := fun k p hp => by
    show (if _ then _ else _) = _
    rw [if_neg (hkout k p hp)]; exact hp
  have hA : ∀ j, j < ks.length + 8 → ∀ p, τ j = some p → σ2 (F j) = some p := fun j hj p hp => by
    by_cases hjl : j < ks.length
    · have hk : ks[j]? = some ks[j] := List.getElem?_eq_getElem hjl
      obtain ⟨q, hq⟩ := hkset ks[j] (List.getElem_mem hjl)
      have h1 := hext.sig j q (by rw [hcan j _ hk]; exact hq)
      rw [hp] at h1
      cases h1
      show σ2 (back ks ks.length key j) = _
      rw [back_lt hk]
      exact hσ2 _ _ hq
    · show σ2 (back ks ks.length key j) = _
      rw [back_ge (by omega)]
      show (if _ then _ else _) = _
      rw [if_pos (by omega), show ks.length + (key + (j - ks.length) - key) = j by omega]
      exact hp
  have hFinj : ∀ i j, i < ks.length + 8 → j < ks.length + 8 → F i = F j → i = j := by
    intro i j hi hj e
    change back ks ks.length key i = back ks ks.length key j at e
    by_cases h1 : i < ks.length <;> by_cases h2 : j < ks.length
    · rw [back_lt (List.getElem?_eq_getElem h1), back_lt (List.getElem?_eq_getElem h2)] at e
      exact (List.getElem?_inj h1 hnd).1 (by rw [List.getElem?_eq_getElem h1, List.getElem?_eq_getElem h2, e])
    · rw [back_lt (List.getElem?_eq_getElem h1), back_ge (by omega)] at e
      obtain ⟨q, hq⟩ := hkset ks[i] (List.getElem_mem h1)
      exact (hkout _ q hq ⟨by omega, by omega⟩).elim
    · rw [back_lt (List.getElem?_eq_getElem h2), back_ge (by omega)] at e
      obtain ⟨q, hq⟩ := hkset ks[j] (List.getElem_mem h2)
      exact (hkout _ q hq ⟨by omega, by omega⟩).elim
    · rw [back_ge (by omega), back_ge (by omega)] at e
      omega
  have hren := mapply_ren hFinj objs
  have hIsub : ∀ b, I b → I' b := fun b hb => hext.mono b (.inl hb)
  have hlt : ∀ b, I b → w'.heap[b]? = w.heap[b]? := fun b hb => hext.blk b (hok.lt b hb) fun ho => hok.sep _ (hOM b ho) hb
  have hblkM : ∀ k x p b, k ∉ ks → mget M k = some x → σ k = some (some p) → foot x p b → w'.heap[b]? = w.heap[b]? := by
    intro k x p b hk hm hp hf
    obtain ⟨q, hq, ho⟩ := hok.obj k x hm
    rw [hp] at hq; cases hq
    by_cases hx : owns x
    · refine hext.blk _ (ho.foot_lt hf) fun hb => ?_
      obtain ⟨k', x', p', hk', hm', hx', hs', e⟩ := hOC _ hb
      exact hk (hok.inj k k' _ x' p p' b hm hm' hx hx' hp hs' hf e ▸ hk')
    · cases x with
      | imm nn e xs => exact hlt _ (hf ▸ ho.2)
      | _ => exact (hx trivial).elim
  -- what holds in both ways: J: what is immutable behind the call; N: the objects ahead of the updates
  have main : ∀ (J : Nat → Prop) (N : MS), (∀ b, I b → J b) → (∀ b, J b → I' b) → (∀ k, k ∈ ks → mget N k = mget M k) →
      (∀ k x, k ∉ ks → mget N k = some x → ∃ y, mget M k = some y ∧ (x = y ∨ ∃ nn e xs, y = .row nn e xs ∧ x = .imm nn e xs ∧ k ∈ lent ∧ ∀ b, Lent σ lent b → J b)) →
      (∀ k x p b, k ∉ ks → mget N k = some x → owns x → σ k = some (some p) → foot x p b → ¬ J b) →
      (VR w' J τ val v) → (∀ j x p, mget (mapply cM objs) j = some x → OR w' I' τ p x → OR w' J τ p x) →
      Post w I σ M key (ren F val) (mapply N (renUpd F objs)) v w' := by
    intro J N j1 j2 n1 n2 n3 hvJ hoJ
    have K : Keep w I σ w' J σ2 := ⟨hlt, j1, hσ2⟩
    -- each object behind the call
    have back : ∀ k x, mget (mapply N (renUpd F objs)) k = some x →
        (∃ j y p, j < ks.length + 8 ∧ F j = k ∧ mget (mapply cM objs) j = some y ∧ τ j = some p ∧ σ2 k = some p ∧ OR w' J σ2 p x ∧ (owns x ↔ owns y) ∧ (∀ q b, foot x q b → foot y q b)) ∨
        (k ∉ ks ∧ mget N k = some x ∧ (∃ p, σ k = some p ∧ σ2 k = some p ∧ OR w' J σ2 p x)) := by
      intro k x hx
      by_cases hj : ∃ j, j < ks.length + 8 ∧ F j = k
      · obtain ⟨j, hj, rfl⟩ := hj
        by_cases hu : ∃ u, (j, u) ∈ objs
        · left
          have := ((hren N cM hkl2 j).1 hj).1 hu
          rw [hx] at this
          obtain ⟨y, hy, hyx⟩ := Option.map_eq_some_iff.1 this.symm
          obtain ⟨p, hp, ho⟩ := hok'.obj j y hy
          have ho := hoJ j y p hy ho
          refine ⟨j, y, p, hj, rfl, hy, hp, hA j hj p hp, ?_, ?_, ?_⟩
          · rw [← hyx]
            cases y with
            | row _ _ _ => cases p <;> exact ho
            | imm _ _ _ => cases p <;> exact ho
            | dp _ _ _ => cases p <;> exact ho
            | obj cs =>
              cases p with
              | none => exact ho
              | some q =>
                obtain ⟨us, t, fz, hh, hf, hvs⟩ := ho
                exact ⟨us, t, fz, hh, hf, rens_ok hA ((kltU_mem hkl2 j _ (mapply_val hu hy)).2 cs rfl) hvs⟩
          · rw [← hyx]; cases y <;> exact Iff.rfl
          · intro q b hf; rw [← hyx] at hf; cases y <;> exact hf
        · obtain ⟨h1, h2⟩ := ((hren N cM hkl2 j).1 hj).2 hu
          rw [h1] at hx
          by_cases hjl : j < ks.length
          · left
            have hkj : ks[j]? = some ks[j] := List.getElem?_eq_getElem hjl
            have hFj : F j = ks[j] := back_lt hkj
            rw [hFj, n1 _ (List.getElem_mem hjl)] at hx
            obtain ⟨y, hy⟩ : ∃ y, mget cM j = some y := by
              rw [(hS j).1, if_pos (Nat.zero_le _), Nat.sub_zero, hkj]
              simp only [hx]
              obtain ⟨x', hx', hc'⟩ := (hS j).2 ks[j] (by simpa using hkj) (Nat.zero_le _)
              rw [hx] at hx'; cases hx'
              cases x with
              | obj cs => obtain ⟨cs', e⟩ := hc' cs rfl; exact ⟨.obj cs', by simp [e]⟩
              | row _ _ _ => exact ⟨_, rfl⟩
              | imm _ _ _ => exact ⟨_, rfl⟩
              | dp _ _ _ => exact ⟨_, rfl⟩
            obtain ⟨k, x2, hk2, hm2, hxy⟩ := hcget j y hy
            rw [hkj] at hk2; cases hk2
            rw [hx] at hm2; cases hm2
            obtain ⟨p, hp, ho⟩ := hok'.obj j y (by rw [h2]; exact hy)
            have ho := hoJ j y p (by rw [h2]; exact hy) ho
            refine ⟨j, y, p, hj, rfl, by rw [h2]; exact hy, hp, hA j hj p hp, ?_, (howns hxy).symm, fun q b hf => hfoot2 hxy hf⟩
            cases x with
            | obj cs =>
              obtain ⟨cs', h3, rfl⟩ := hxy
              cases p with
              | none => exact ho
              | some q =>
                obtain ⟨us, t, fz, hh, hf, hvs⟩ := ho
                refine ⟨us, t, fz, hh, hf, ?_⟩
                have hkl : kltVs (ks.length + 8) cs' = true := kltVs_renCs h3
                have := rens_ok hA hkl hvs
                have e4 := rens_renCs (base := key) h3
                rw [show rens F cs' = cs from e4] at this
                exact this
            | row _ _ _ => simp only at hxy; subst hxy; cases p <;> exact ho
            | imm _ _ _ => simp only at hxy; subst hxy; cases p <;> exact ho
            | dp _ _ _ => simp only at hxy; subst hxy; cases p <;> exact ho
          · exfalso
            have hFj : F j = key + (j - ks.length) := back_ge (by omega)
            rw [hFj] at hx
            have hnk : key + (j - ks.length) ∉ ks := fun hk => by
              obtain ⟨p, hp⟩ := hkset _ hk
              exact hkout _ p hp ⟨by omega, by omega⟩
            obtain ⟨y, hy, _⟩ := n2 _ _ hnk hx
            obtain ⟨p, hp, _⟩ := hok.obj _ y hy
            exact hkout _ p hp ⟨by omega, by omega⟩
      · right
        have hne : ∀ i, i < ks.length + 8 → F i ≠ k := fun i hi e => hj ⟨i, hi, e⟩
        rw [(hren N cM hkl2 k).2 hne] at hx
        have hnk : k ∉ ks := fun hk => by
          obtain ⟨j, hj'⟩ := List.mem_iff_getElem?.1 hk
          exact hne j (by have := (List.getElem?_eq_some_iff.1 hj').1; omega) (back_lt hj')
        refine ⟨hnk, hx, ?_⟩
        obtain ⟨y, hy, hxy⟩ := n2 k x hnk hx
        obtain ⟨p, hp, ho⟩ := hok.obj k y hy
        refine ⟨p, hp, hσ2 k p hp, ?_⟩
        have ho2 := OR.keep K (fun q b hq hf => by subst hq; exact hblkM k y q b hnk hy hp hf) ho
        rcases hxy with rfl | ⟨nn, e, xs, rfl, rfl, hkl, hLJ⟩
        · exact ho2
        · cases p with
          | none => exact ho2
          | some q => exact ⟨ho2.1, hLJ _ ⟨k, hkl, q, hp, rfl⟩⟩
    have hown : ∀ b, Owned σ2 (mapply N (renUpd F objs)) b → Owned τ (mapply cM objs) b ∨ ∃ k x p, k ∉ ks ∧ mget N k = some x ∧ owns x ∧ σ k = some (some p) ∧ foot x p b := by
      rintro b ⟨k, x, p, hk, hx, hs, hf⟩
      rcases back k x hk with ⟨j, y, q, _, _, hy, hq, hq2, _, how, hft⟩ | ⟨hnk, hN, q, hq, hq2, _⟩
      · rw [hs] at hq2; cases hq2
        exact .inl ⟨j, y, p, hy, how.1 hx, hq, hft p b hf⟩
      · rw [hs] at hq2; cases hq2
        exact .inr ⟨k, x, p, hnk, hN, hx, hq, hf⟩
    have hNM : ∀ k x p b, k ∉ ks → mget N k = some x → owns x → σ k = some (some p) → foot x p b → Owned σ M b := fun k x p b hnk hN hx hp hf => by
      obtain ⟨y, hy, hxy⟩ := n2 k x hnk hN
      rcases hxy with rfl | ⟨nn, e, xs, rfl, rfl, _⟩
      · exact ⟨k, x, p, hy, hx, hp, hf⟩
      · exact hx.elim
    have hnotC : ∀ k x p b, k ∉ ks → mget N k = some x → owns x → σ k = some (some p) → foot x p b → ¬ Owned τ (mapply cM objs) b := fun k x p b hnk hN hx hp hf hb => by
      rcases hext.own _ hb with h1 | h1
      · obtain ⟨k', x', p', hk', hm', hx', hs', e⟩ := hOC _ h1
        obtain ⟨y, hy, hxy⟩ := n2 k x hnk hN
        rcases hxy with rfl | ⟨nn, e2, xs, rfl, rfl, _⟩
        · exact hnk (hok.inj k k' x x' p p' b hy hm' hx hx' hp hs' hf e ▸ hk')
        · exact hx.elim
      · have := hok.blk_lt (hNM k x p b hnk hN hx hp hf)
        omega
    refine ⟨J, σ2, ren_ok hA hkl1 hvJ, ⟨fun b hb => hok'.lt b (j2 b hb), fun k x hk => ?_, fun b hb hJ => ?_, fun k k' x x' p p' b h1 h2 o1 o2 s1 s2 e f => ?_⟩,
      ⟨hext.os, hext.tape, hext.output, hext.size, fun b hb hn => hext.blk b hb fun ho => hn (hOM b ho), j1, fun b hb => ?_, fun b hb => ?_, hσ2⟩, fun k => ?_⟩
    · rcases back k x hk with ⟨j, y, p, _, _, _, _, hp2, ho, _⟩ | ⟨_, _, p, _, hp2, ho⟩ <;> exact ⟨p, hp2, ho⟩
    · rcases hown b hb with h1 | ⟨k, x, p, hnk, hN, hx, hp, hf⟩
      · exact hok'.sep b h1 (j2 b hJ)
      · exact n3 k x p b hnk hN hx hp hf hJ
    · rcases back k x h1 with ⟨j, y, q, hj, e1, hy, hq, hq2, _, how, hft⟩ | ⟨hnk, hN, q, hq, hq2, _⟩ <;> rcases back k' x' h2 with ⟨j', y', q', hj', e1', hy', hq', hq2', _, how', hft'⟩ | ⟨hnk', hN', q', hq', hq2', _⟩ <;> rw [s1] at hq2 <;> rw [s2] at hq2' <;> cases hq2 <;> cases hq2'
      · have := hok'.inj j j' y y' p p' b hy hy' (how.1 o1) (how'.1 o2) hq hq' (hft p b e) (hft' p' b f)
        rw [← e1, ← e1', this]
      · exact (hnotC k' x' p' b hnk' hN' o2 hq' f ⟨j, y, p, hy, how.1 o1, hq, hft p b e⟩).elim
      · exact (hnotC k x p b hnk hN o1 hq e ⟨j', y', p', hy', how'.1 o2, hq', hft' p' b f⟩).elim
      · obtain ⟨z, hz, hxz⟩ := n2 k x hnk hN
        obtain ⟨z', hz', hxz'⟩ := n2 k' x' hnk' hN'
        rcases hxz with rfl | ⟨nn, e2, xs, rfl, rfl, _⟩
        · rcases hxz' with rfl | ⟨nn, e2, xs, rfl, rfl, _⟩
          · exact hok.inj k k' x x' p p' b hz hz' o1 o2 hq hq' e f
          · exact o2.elim
        · exact o1.elim
    · rcases hext.fresh b (j2 b hb) with (h1 | h1) | h1 | h1
      · exact .inl h1
      · rcases hlentI b h1 with h2 | h2
        · exact .inl h2
        · exact .inr (.inl h2)
      · exact .inr (.inl (hOM b h1))
      · exact .inr (.inr h1)
    · rcases hown b hb with h1 | ⟨k, x, p, hnk, hN, hx, hp, hf⟩
      · rcases hext.own b h1 with h2 | h2
        · exact .inl (hOM b h2)
        · exact .inr h2
      · exact .inl (hNM k x p b hnk hN hx hp hf)
    · by_cases h : key ≤ k ∧ k < key + 8
      · exact .inr h
      · left
        show (if _ then _ else _) = _
        rw [if_neg h]
  cases hfl : noLent lent val (mapply cM objs) with
  | true =>
    simp only [List.nil_append]
    unfold noLent at hfl
    split at hfl
    · -- nothing was lent
      refine main I' M hIsub (fun _ h => h) (fun _ _ => rfl) (fun k x _ hx => ⟨x, hx, .inl rfl⟩) (fun k x p b hnk hx ho hp hf hb => ?_) hval (fun _ _ _ _ h => h)
      rcases hext.fresh _ hb with (h1 | ⟨k', hk', _⟩) | h1 | h1
      · exact hok.sep _ ⟨k, x, p, hx, ho, hp, hf⟩ h1
      · cases hk'
      · obtain ⟨k', x', p', hk', hm', hx', hs', e⟩ := hOC _ h1
        exact hnk (hok.inj k k' x x' p p' b hx hm' ho hx' hp hs' hf e ▸ hk')
      · have := hok.blk_lt ⟨k, x, p, hx, ho, hp, hf⟩
        omega
    · split at hfl <;> (try (cases hfl; done))
      rename_i hfv
      exact main I M (fun _ h => h) hIsub (fun _ _ => rfl) (fun k x _ hx => ⟨x, hx, .inl rfl⟩) (fun k x p b _ hx ho hp hf => hok.sep _ ⟨k, x, p, hx, ho, hp, hf⟩) (flatV_ok hfv hval) (fun j x p hj ho => flatO_ok (flatM_ok hfl hj) ho)
  | false =>
    rw [mapply_append]
    refine main I' (mapply M (freeze M lent)) hIsub (fun _ h => h) (fun k hk => ?_) (fun k x hnk hx => ?_) (fun k x p b hnk hx ho hp hf hb => ?_) hval (fun _ _ _ _ h => h)
    · rw [mget_freeze, if_neg (fun hl => hdj k hl hk)]
    · rw [mget_freeze] at hx
      split at hx
      · rename_i hkl
        split at hx
        · rename_i nn e xs hm
          cases hx
          exact ⟨_, hm, .inr ⟨nn, e, xs, rfl, rfl, hkl, fun b hb => hext.mono b (.inr hb)⟩⟩
        · exact ⟨x, hx, .inl rfl⟩
      · exact ⟨x, hx, .inl rfl⟩
    · have hoF : Owned σ (mapply M (freeze M lent)) b := ⟨k, x, p, hx, ho, hp, hf⟩
      rcases hext.fresh _ hb with h1 | h1 | h1
      · exact hokF.sep _ hoF h1
      · obtain ⟨k', x', p', hk', hm', hx', hs', e⟩ := hOC _ h1
        have hxM : mget M k = some x := by
          rw [mget_freeze] at hx
          split at hx
          · split at hx
            · cases hx; exact ho.elim
            · exact hx
          · exact hx
        exact hnk (hok.inj k k' x x' p p' b hxM hm' ho hx' hp hs' hf e ▸ hk')
      · have := hok.blk_lt (hownF _ hoF)
        omega
theorem call_ok (hok : Ok w I σ M) (hfree : ∀ k, key ≤ k → k < key + 8 → σ k = none) {f : FuncId} {C : Contract} (hC : CSound P f C) {args : List AV} {vs : List Value} {e : Eff} (h : callAv M key C args = some e) (hvc : ∀ p ∈ e.vc, p ()) (hv : VRs w I σ args vs) :
    Invokes P f vs w (Post w I σ M key e.val (mapply M e.upd)) := by
  unfold callAv at h
  split at h <;> (try (cases h; done))
  rename_i args1 lent vc0 hmode
  dsimp only at h
  split at h <;> (try (cases h; done))
  rename_i cargs cM hca hcM hnd hdj
  split at h <;> (try (cases h; done))
  rename_i r hr
  split at h <;> (try (cases h; done))
  rename_i hkl1 hkl2
  simp only [Option.some.injEq] at h
  subst h
  have hvc2 : ∀ p ∈ r.vc, p () := fun p hp => hvc p (List.mem_append_right _ hp)
  refine (call_gen (R := fun val upd => val = r.val ∧ upd = r.objs) hok hfree hmode (fun p hp => hvc p (List.mem_append_left _ hp)) hca hcM hnd hdj hv fun w I σ vs h1 h2 h3 => (hC.det cargs cM r hr hvc2 w I σ vs h1 h2 h3).mono fun v w' h => ⟨r.val, r.objs, ⟨rfl, rfl⟩, h⟩).mono fun v w' hp => ?_
  obtain ⟨val, objs, ⟨rfl, rfl⟩, hp⟩ := hp
  refine hp ⟨[], _, lent ++ reach M 40 0 (keysOfs args1 []), _⟩ ?_
  simp only [callRes, hkl1, hkl2]
theorem callN_ok (hok : Ok w I σ M) (hfree : ∀ k, key ≤ k → k < key + 8 → σ k = none) {f : FuncId} {C : Contract} (hC : CSound P f C) {args : List AV} {vs : List Value} {n : NEff} (h : callNv M key C args = some n) (hvc : ∀ p ∈ n.pre, p ()) (hv : VRs w I σ args vs) :
    Invokes P f vs w fun v w' => ∃ d, n.ok d ∧ ∀ e, n.eff d = some e → Post w I σ M key e.val (mapply M e.upd) v w' := by
  unfold callNv at h
  split at h <;> (try (cases h; done))
  rename_i args1 lent vc0 hmode
  dsimp only at h
  split at h <;> (try (cases h; done))
  rename_i cargs cM hca hcM hnd hdj
  split at h <;> (try (cases h; done))
  rename_i r hr
  simp only [Option.some.injEq] at h
  subst h
  have hvc2 : ∀ p ∈ r.pre, p () := fun p hp => hvc p (List.mem_append_right _ hp)
  refine (call_gen hok hfree hmode (fun p hp => hvc p (List.mem_append_left _ hp)) hca hcM hnd hdj hv (hC.nd cargs cM r hr hvc2)).mono fun v w' hp => ?_
  obtain ⟨val, objs, ⟨d, hd, hres⟩, hp⟩ := hp
  refine ⟨d, hd, fun e he => hp e ?_⟩
  simp only [hres] at he
  exact he
end
end Go.Am
/- One operation: append of so many zeros. -/
namespace Go.Am
set_option linter.all false
set_option linter.deprecated false
section
variable {P : Program} {o : Oper} {a : Act} {w w' : World} {I I' : Nat → Prop} {σ : Sig} {M : MS} {key : Nat} {env : List AV} {T : TT}
theorem run_appendz_room (t tx ty e : TypeId) (i : TypeInfo) (z : Value) (ht : P.underlying t = some (.slice e)) (hx : P.underlying tx = some (.int .i64)) (hi : P.info? e = some i) (hz : i.zero = some z)
    (base : Option Addr) (sLen sCap n : Nat) (hn : (n : Int) ≤ 9223372036854775807) (h48 : n * i.bytes ≤ 281474976710656) (hroom : sLen + n ≤ sCap) (h0 : 0 < i.size) :
    (Builtin.append_ #[t, tx] ty #[.slice base sLen sCap, .int .i64 n]).run P w =
      (do if let some a := base then storeCells (a.add (sLen * i.size)) (Builtin.zeroCells z.cells n).toList
          pure (Value.slice base (sLen + n) sCap)).run P w := by
  have hw : IntKind.i64.wrap (n : Int) = n := by simp [IntKind.wrap, IntKind.signed, IntKind.bits]; omega
  have h1 : ¬ ((n : Int) < 0) := by omega
  have h2 : ¬ ((n : Int) * (i.bytes : Int) > 2 ^ 48) := by
    have : ((n : Int) * i.bytes) = ((n * i.bytes : Nat) : Int) := by simp
    rw [this]; omega
  have hti : (typeInfo e).run P w = .ok i w := by simp [typeInfo, hi]
  have hzv : (zeroValue e).run P w = .ok z w := by simp [zeroValue, typeInfo, hi, hz]
  have key : ∀ (w : World), ((if n * i.size = 0 then pure #[] else do pure (Builtin.zeroCells (← zeroValue e).cells n) : Sem (Array Value))).run P w = .ok (Builtin.zeroCells z.cells n) w := by
    intro w
    by_cases hn0 : n = 0
    · subst hn0
      rw [if_pos (Nat.zero_mul _)]
      simp [Builtin.zeroCells, Sem.run_pure]
    · have : ¬ (n * i.size = 0) := Nat.mul_ne_zero (by omega) (by omega)
      rw [if_neg this]
      simp [zeroValue, typeInfo, hi, hz]
  simp only [Builtin.append_, List.getElem?_toArray, List.getElem?_cons_zero, List.getElem?_cons_succ, Sem.run_bind, run_under ht, run_under hx, Result.andThen_ok, run_sizeOf_of hi, Sem.run_pure, asInt, asIntOf, hw, if_neg h1, hti, if_neg h2, if_true, Bool.not_true, Bool.false_eq_true, if_false, Int.toNat_natCast, if_pos hroom, key]
  cases base <;> rfl
theorem run_appendz_grow (t tx ty e : TypeId) (i : TypeInfo) (z : Value) (ht : P.underlying t = some (.slice e)) (hx : P.underlying tx = some (.int .i64)) (hi : P.info? e = some i) (hz : i.zero = some z)
    (base : Option Addr) (sLen sCap n : Nat) (olds : List Value) (hold : ∀ w' : World, w'.heap = w.heap → (Builtin.firstCells i.size sLen (.slice base sLen sCap)).run P w' = .ok olds.toArray w') (h48 : n * i.bytes ≤ 281474976710656) (hg : sCap < sLen + n) (h63 : ((sLen + n : Nat) : Int) ≤ 9223372036854775807) (hfit : Builtin.nextslicecap (sLen + n) sCap * i.bytes ≤ 281474976710656) (h0 : 0 < i.size) (hn0 : n ≠ 0) :
    (Builtin.append_ #[t, tx] ty #[.slice base sLen sCap, .int .i64 n]).run P w =
      .ok (.slice (some ⟨w.heap.size, 0, none⟩) (sLen + n) (grownCap w (sLen + n) sCap e))
        (w.drew.alloc (.cells (olds.toArray ++ Builtin.zeroCells z.cells n ++ Builtin.zeroCells z.cells (grownCap w (sLen + n) sCap e - (sLen + n))) e)) := by
  have hw : IntKind.i64.wrap (n : Int) = n := by simp [IntKind.wrap, IntKind.signed, IntKind.bits]; omega
  have h1 : ¬ ((n : Int) < 0) := by omega
  have h2 : ¬ (281474976710656 < (n : Int) * (i.bytes : Int)) := by
    have : ((n : Int) * i.bytes) = ((n * i.bytes : Nat) : Int) := by simp
    rw [this]; omega
  have hn : ¬ (sLen + n ≤ sCap) := by omega
  have h63' : ¬ (9223372036854775807 < ((sLen : Int) + (n : Int))) := by omega
  have h48' : ¬ (281474976710656 < Builtin.nextslicecap (sLen + n) sCap * i.bytes) := by omega
  have hfo := hold w.drew rfl
  have key : ∀ (w : World), ((if n * i.size = 0 then pure #[] else do pure (Builtin.zeroCells (← zeroValue e).cells n) : Sem (Array Value))).run P w = .ok (Builtin.zeroCells z.cells n) w := by
    intro w
    by_cases hn0 : n = 0
    · subst hn0
      rw [if_pos (Nat.zero_mul _)]
      simp [Builtin.zeroCells, Sem.run_pure]
    · have : ¬ (n * i.size = 0) := Nat.mul_ne_zero (by omega) (by omega)
      rw [if_neg this]
      simp [zeroValue, typeInfo, hi, hz]
  have hn0' : ¬ (n * i.size = 0) := Nat.mul_ne_zero hn0 (by omega)
  simp [Builtin.append_, run_underlying ht, run_underlying hx, sizeOf, typeInfo, zeroValue, hi, hz, hn, h63', h48', Question.forced, hfo, newRow, grownCap, asInt, asIntOf, hw, h1, h2, hn0']
theorem appendz_ok (hok : Ok w I σ M) (hfree : σ key = none) (hT : ∀ t i, T t = some i → TIok P t i) {t : Nat} {ti : TI} (ht : tget T t = some ti) {el esz eb : Nat} {esh : List Sh} (htd : ti.td = .slice el esz eb esh) {ei : TI} (hel : tget T el = some ei) {ds : List (Unit → D)} (h3 : encs esh ei.zero = some ds)
    {tx : Nat} (hx : P.underlying tx = some (.int .i64)) (ty : TypeId) {s : AV} {n : Unit → Int} {e : Eff} (h : appendZ M key esh eb ds s n = some e) (hvc : ∀ p ∈ e.vc, p ()) {u : Value} (hs : VR w I σ s u) :
    ∃ r w', (Builtin.append_ #[t, tx] ty #[u, .int .i64 (n ())]).run P w = .ok r w' ∧ Post w I σ M key e.val (mapply M e.upd) r w' := by
  obtain ⟨d, hu, hd, _⟩ := under_of hT ht
  rw [htd] at hd
  obtain ⟨rfl, hesh, hes0, inf, z, hinf, hisz, hib, hiz, hzs⟩ := sz_of_slice hd
  obtain ⟨inf2, z2, hinf2, hs2, hz2, hzs2, hzr⟩ := (hT el ei hel).info
  obtain rfl : inf = inf2 := by rw [hinf] at hinf2; cases hinf2; rfl
  obtain rfl : z = z2 := by rw [hiz] at hz2; cases hz2; rfl
  have hdl : DatL w I esh 0 (dall ds) z.cells.toList := by simpa using encs_ok [] h3 (hzr w I σ)
  unfold appendZ at h
  split at h <;> (try (cases h; done))
  rename_i s' k lo len heb
  have heb := Nat.le_of_ble_eq_true heb
  split at h <;> (try (cases h; done))
  rename_i nn e' xs hm
  split at h <;> (try (cases h; done))
  rename_i hsh
  have hsh := shEqs_ok hsh
  subst hsh
  simp only [Option.some.injEq] at h
  subst h
  have hlo : lo () = 0 := hvc (fun _ => lo () = 0) List.mem_cons_self
  have hlen : len () ≤ (xs ()).length := hvc (fun _ => len () ≤ (xs ()).length) (List.mem_cons_of_mem _ List.mem_cons_self)
  have hbg : 0 ≤ n () ∧ (len () : Int) + n () ≤ big := hvc (fun _ => 0 ≤ n () ∧ (len () : Int) + n () ≤ big) (List.mem_cons_of_mem _ (List.mem_cons_of_mem _ List.mem_cons_self))
  obtain ⟨m, hm'⟩ : ∃ m : Nat, n () = m := ⟨(n ()).toNat, by omega⟩
  rw [hm'] at hbg ⊢
  have hbig : len () + m ≤ big := by omega
  clear hbg
  have hnn : (n ()).toNat = m := by omega
  obtain ⟨q, hq, hr⟩ := ok_row hok (.inl hm)
  have hb2 : (len () + m) * inf.bytes ≤ 140737488355328 := by
    rw [hib]
    calc (len () + m) * eb ≤ 1099511627776 * 128 := Nat.mul_le_mul (by unfold big at hbig; omega) heb
      _ ≤ _ := by decide
  have hb3 : m * inf.bytes ≤ 281474976710656 := by
    have : m * inf.bytes ≤ (len () + m) * inf.bytes := Nat.mul_le_mul_right _ (by omega)
    omega
  have hml : len () + m ≤ maxLen := by unfold big at hbig; unfold maxLen; omega
  have hi0 : 0 < inf.size := by omega
  obtain ⟨cs, hcs⟩ : ∃ cs, cs = (Builtin.zeroCells z.cells m).toList := ⟨_, rfl⟩
  have hcs' : Builtin.zeroCells z.cells m = cs.toArray := by rw [hcs]
  have g4 : RowL w I e' (List.replicate m (dall ds)) cs := by
    have := RowL.rep hdl m
    rw [← range_rep _ _ (by omega)] at this
    rw [hcs]
    exact this
  have hcl : cs.length = m * e'.length := by have := g4.1; simpa using this
  simp only [mapply, hnn, Int.toNat_natCast]
  simp only [VR] at hs
  rw [hq] at hs
  rcases hr with ⟨p, rfl, cs0, ct, fz, hh, r1, r2, r3, r4, r5, r6, r7⟩ | ⟨rfl, e1, he0⟩
  · obtain ⟨off, cap, rfl, k1, k2, k3, k4⟩ := hs
    obtain ⟨olds, o1, o2⟩ := RowL.of (w := w) (I := I) (e := e') (b := p.b) (off := p.o) (xs ()) fun i hi => by rw [← r3]; exact r7 i hi
    have o3 := o1.take (len ()) hlen
    have o4 : ((olds.take (len () * e'.length)) ++ cs).length = (len () + m) * e'.length := by
      rw [List.length_append, o3.1, hcl, List.length_take, Nat.min_eq_left hlen, Nat.add_mul]
    have o5 : RowL w I e' ((xs ()).take (len ()) ++ List.replicate m (dall ds)) (olds.take (len () * e'.length) ++ cs) := o3.append g4
    by_cases hroom : len () + m ≤ cap
    · obtain ⟨hren, hext⟩ := Ok.rename hok hm hq hfree
      have hoff : m = 0 ∨ off = p.o := by
        rcases k1 with k1 | k1
        · left; omega
        · right; rw [k1, hlo, Nat.zero_mul, Nat.add_zero]
      have hones := g4.ones (by omega)
      have hfit : (p.o ≤ off + len () * inf.size + 0 ∧ off + len () * inf.size + 0 + cs.length ≤ p.o + p.cap * p.sz) ∨ m = 0 := by
        rcases hoff with h0 | h0
        · exact .inr h0
        · left
          have hcc : (len () + m) * p.sz ≤ p.cap * p.sz := Nat.mul_le_mul_right _ (by omega)
          rw [Nat.add_mul] at hcc
          rw [h0, hcl, hisz, ← hesh, ← r3]
          omega
      obtain ⟨w', cs', st1, st2, st3, st4⟩ : ∃ w' cs', (storeCells ((⟨p.b, off, none⟩ : Addr).add (len () * inf.size)) cs).run P w = .ok () w' ∧ Turned w w' p.b ∧ w'.heap[p.b]? = some (.cells cs' ct fz) ∧ Splice cs0 (off + len () * inf.size) cs cs' := by
        rw [Addr.add_lit]
        rcases hfit with hfit | h0
        · have := run_storeCells_splice (P := P) p.b (off + len () * inf.size) cs 0 w cs0 ct fz hh (r1.1.mono (by omega) (by omega)) (by omega) hones
          simpa using this
        · have : cs = [] := List.eq_nil_of_length_eq_zero (by rw [hcl, h0]; simp)
          subst this
          exact ⟨w, cs0, rfl, .refl w _, hh, rfl, fun j => by rw [if_neg (by simp)]⟩
      refine ⟨.slice (some ⟨p.b, off, none⟩) (len () + m) cap, w', ?_, ?_⟩
      · rw [run_appendz_room t tx ty el inf z hu hx hinf hiz _ _ _ m (by unfold maxLen at hml; omega) hb3 hroom hi0]
        simp only [Sem.run_bind, ← hcs, st1, Result.andThen_ok, Sem.run_pure]
      · have ht1 : mget (mset (mdel M k) key (.row nn e' xs)) key = some (.row nn e' xs) := by rw [mget_mset, if_pos rfl]
        have := Post.turned (key := key) hren ht1 trivial (Sig.upd_same σ key (some p)) st2 (val := .ms key (fun _ => 0) (fun _ => len () + m)) (v := .slice (some ⟨p.b, off, none⟩) (len () + m) cap) (y := .row nn e' (fun _ => (xs ()).take (len ()) ++ List.replicate m (dall ds))) trivial ?_ ?_
        · rw [mset_mset] at this
          exact this.after' hext fun j => by
            by_cases h : j = key
            · exact .inr (by omega)
            · exact .inl (Sig.upd_other _ _ h)
        · refine ⟨⟨cs', ct, fz, st3, ⟨r1.1, r1.2.splice st4 (hfit.symm.imp (fun h0 => List.eq_nil_of_length_eq_zero (by rw [hcl, h0]; simp)) fun h => by simpa using h)⟩, by rw [st4.1, r2], r3, r4, by rw [List.length_append, List.length_take, Nat.min_eq_left hlen, List.length_replicate]; omega, r6, ?_⟩, row_pin hok hm hq⟩
          have hIo : ∀ b, I b → w'.heap[b]? = w.heap[b]? := fun b hb => st2.other b (by rintro rfl; exact hok.sep _ ⟨k, _, p, hm, trivial, hq, foot_b _ p⟩ hb)
          rw [r3]
          refine (o5.keep hIo fun _ h => h).row fun j c hc => ?_
          rw [cell_of_row w' p.b (p.o + j) cs' ct fz st3, st4.2 (p.o + j)]
          have hlt := (List.getElem?_eq_some_iff.1 hc).1
          rw [o4] at hlt
          have hl1 : (olds.take (len () * e'.length)).length = len () * e'.length := by rw [o3.1, List.length_take, Nat.min_eq_left hlen]
          rw [hisz, ← hesh]
          by_cases hj : j < len () * e'.length
          · rw [List.getElem?_append_left (by omega), List.getElem?_take, if_pos hj] at hc
            have hold := o2 j c hc
            rw [cell_of_row w p.b (p.o + j) cs0 ct fz hh] at hold
            rcases hoff with h0 | h0
            · have : cs = [] := List.eq_nil_of_length_eq_zero (by rw [hcl, h0]; simp)
              subst this
              rw [if_neg (by simp)]
              exact hold
            · rw [if_neg (by omega)]
              exact hold
          · rw [List.getElem?_append_right (by omega), hl1] at hc
            have hlc := (List.getElem?_eq_some_iff.1 hc).1
            rcases hoff with h0 | h0
            · exfalso
              rw [hcl, h0] at hlc
              simp at hlc
            · rw [h0, if_pos (by omega), show p.o + j - (p.o + len () * e'.length) = j - len () * e'.length by omega]
              exact hc
        · simp only [VR, Sig.upd_same, MsR]
          refine ⟨off, cap, rfl, ?_, by omega, by omega, k4⟩
          rcases k1 with k1 | k1
          · exact .inl k1
          · right; rw [k1, hlo]
    · have hold : ∀ w' : World, w'.heap = w.heap → (Builtin.firstCells inf.size (len ()) (.slice (some ⟨p.b, off, none⟩) (len ()) cap)).run P w' = .ok (olds.take (len () * e'.length)).toArray w' := fun w' hw' => by
        refine run_firstCells_some w' inf.size (len ()) ⟨p.b, off, none⟩ (len ()) cap _ (by rw [o3.1, List.length_take, Nat.min_eq_left hlen, hisz, hesh]) fun j v hv => ?_
        rw [List.getElem?_take] at hv
        split at hv
        · rename_i hj
          have hl0 : len () ≠ 0 := by rintro h0; rw [h0] at hj; simp at hj
          have hoff : off = p.o := by
            rcases k1 with k1 | k1
            · omega
            · rw [k1, hlo, Nat.zero_mul, Nat.add_zero]
          rw [Addr.add_lit, hoff, cell_of_blk (w := w) (w' := w') (by rw [hw'])]
          exact o2 j v hv
        · cases hv
      have hrun := run_appendz_grow (P := P) (w := w) t tx ty el inf z hu hx hinf hiz (some ⟨p.b, off, none⟩) (len ()) cap m _ hold hb3 (by omega) (by unfold maxLen at hml; omega) (growslice_fits (by omega) hb2) hi0 (by omega)
      refine ⟨_, _, hrun, Post.sub (mdel_sub M k) ?_⟩
      have hge := grownCap_ge w (len () + m) cap el
      have hmore : ∀ x, More w (w.drew.alloc x) x := fun x => ⟨rfl, rfl, rfl, rfl⟩
      refine Post.alloc (hok.sub (mdel_sub M k)) hfree (hmore _) (cap := grownCap w (len () + m) cap el) (sz := e'.length) trivial ?_ ?_
      · rw [hcs']
        refine row_new (hmore _) hok.lt (by omega) o5 ?_ (fun j c hc => ?_) (by rw [List.length_append, List.length_take, Nat.min_eq_left hlen, List.length_replicate]; exact hge) (grownCap_le_maxLen w _ _ el hml) (by simp [unfrozen])
        · rw [Array.size_append, Array.size_append, size_zeroCells, List.size_toArray, List.size_toArray, ← List.length_append, o4, hzs, hesh, ← Nat.add_mul]
          congr 1; omega
        · rw [Array.getElem?_append_left (by rw [Array.size_append, List.size_toArray, List.size_toArray, ← List.length_append]; exact (List.getElem?_eq_some_iff.1 hc).1)]
          simpa using hc
      · simp only [VR, Sig.upd_same, MsR]
        exact ⟨0, _, rfl, .inr (by simp), by simp, hge, grownCap_le_maxLen w _ _ el hml⟩
  · -- a nil row
    obtain ⟨rfl, _, e3⟩ := hs
    have hl0 : len () = 0 := e3
    by_cases h0 : m = 0
    · refine ⟨.slice none 0 0, w, ?_, Post.sub (mdel_sub M k) ?_⟩
      · subst h0
        rw [run_appendz_room t tx ty el inf z hu hx hinf hiz _ _ _ 0 (by omega) (by omega) (by omega) hi0]
        rfl
      · obtain ⟨nn', rfl⟩ : ∃ x, x = nn := ⟨_, rfl⟩
        obtain ⟨p, hp, ho⟩ := hok.obj k _ hm
        rw [hq] at hp
        cases hp
        have hnn : nn' = false := ho.1
        subst hnn
        refine Post.nilrow (hok.sub (mdel_sub M k)) hfree ?_ (by omega) ?_
        · show (xs ()).take (len ()) ++ List.replicate m (dall ds) = []
          rw [hl0, h0]; rfl
        · simp only [VR, Sig.upd_same, MsR, true_and]; omega
    · have hold : ∀ w' : World, w'.heap = w.heap → (Builtin.firstCells inf.size 0 (.slice none 0 0)).run P w' = .ok ([] : List Value).toArray w' := fun w' _ => run_firstCells_none w' _ _ _ _
      have hrun := run_appendz_grow (P := P) (w := w) t tx ty el inf z hu hx hinf hiz none 0 0 m [] hold hb3 (by omega) (by unfold maxLen at hml; omega) (growslice_fits (by omega) (by rw [hl0] at hb2; exact hb2)) hi0 h0
      refine ⟨_, _, hrun, Post.sub (mdel_sub M k) ?_⟩
      have hge := grownCap_ge w (0 + m) 0 el
      have hmore : ∀ x, More w (w.drew.alloc x) x := fun x => ⟨rfl, rfl, rfl, rfl⟩
      have e4 : (xs ()).take (len ()) ++ List.replicate m (dall ds) = List.replicate m (dall ds) := by rw [hl0, List.take_zero, List.nil_append]
      have hml0 : 0 + m ≤ maxLen := by omega
      refine Post.alloc (hok.sub (mdel_sub M k)) hfree (hmore _) (cap := grownCap w (0 + m) 0 el) (sz := e'.length) trivial ?_ ?_
      · rw [hcs']
        refine row_new (hmore _) hok.lt (by omega) (by rw [e4]; exact g4) ?_ (fun j c hc => ?_) (by show ((xs ()).take (len ()) ++ List.replicate m (dall ds)).length ≤ _; rw [e4, List.length_replicate]; omega) (grownCap_le_maxLen w (0 + m) 0 el hml0) (by simp [unfrozen])
        · rw [Array.size_append, size_zeroCells, hzs, hesh]
          simp only [List.append_toArray, List.size_toArray, List.nil_append, hcl]
          rw [hesh, ← Nat.add_mul]
          congr 1; omega
        · have hc' : ((([] : List Value).toArray ++ cs.toArray : Array Value))[j]? = some c := by simpa using hc
          rw [Array.getElem?_append_left (Array.getElem?_eq_some_iff.1 hc').1]
          exact hc'
      · simp only [VR, Sig.upd_same, MsR, hl0]
        exact ⟨0, _, rfl, .inr (by simp), by simp, hge, grownCap_le_maxLen w (0 + m) 0 el hml0⟩
end
end Go.Am
/- Rows whose elements own their slices: building one of one element, and append. -/
namespace Go.Am
set_option linter.all false
set_option linter.deprecated false
section
variable {P : Program} {o : Oper} {a : Act} {w w' : World} {I I' : Nat → Prop} {σ : Sig} {M : MS} {key : Nat} {env : List AV} {T : TT}

/-- objects that are taken over by a new one -/
def Taken (σ : Sig) (M N : MS) (b : Nat) : Prop := ∃ k x p, mget M k = some x ∧ owns x ∧ mget N k = none ∧ σ k = some (some p) ∧ foot x p b
theorem Taken.owned {N : MS} {b : Nat} (h : Taken σ M N b) : Owned σ M b := by
  obtain ⟨k, x, p, h1, h2, _, h4, h5⟩ := h
  exact ⟨k, x, p, h1, h2, h4, h5⟩
theorem Post.take (hok : Ok w I σ M) (hfree : σ key = none) {N : MS} (hN : ∀ k x, mget N k = some x → mget M k = some x) {p : Pl} {y : MObj} {val : AV} {v : Value}
    (hos : w'.os = w.os) (htp : w'.tape = w.tape) (hout : w'.output = w.output) (hsz : w.heap.size ≤ w'.heap.size)
    (hsame : ∀ b, b < w.heap.size → ¬ Taken σ M N b → w'.heap[b]? = w.heap[b]?) (hy : owns y) (hfoot : ∀ b, foot y p b → w.heap.size ≤ b ∨ Taken σ M N b)
    (ho : OR w' I (σ.upd key (some p)) (some p) y) (hv : VR w' I (σ.upd key (some p)) val v) : Post w I σ M key val (mset N key y) v w' := by
  have hsig : ∀ k q, σ k = some q → σ.upd key (some p) k = some q := fun k q h => by
    rw [Sig.upd_other _ _ (by rintro rfl; rw [hfree] at h; cases h)]; exact h
  have hnt : ∀ b, I b → ¬ Taken σ M N b := fun b hb ht => hok.sep _ ht.owned hb
  have K : Keep w I σ w' I (σ.upd key (some p)) := ⟨fun b hb => hsame b (hok.lt b hb) (hnt b hb), fun b hb => hb, hsig⟩
  have hlive : ∀ k x q b, mget N k = some x → owns x → σ k = some (some q) → foot x q b → ¬ Taken σ M N b := by
    rintro k x q b hk hx hq hf ⟨k', x', p', h1, h2, h3, h4, h5⟩
    have := hok.inj k k' x x' q p' b (hN k x hk) h1 hx h2 hq h4 hf h5
    subst this
    rw [hk] at h3
    cases h3
  have hown : ∀ b, Owned (σ.upd key (some p)) (mset N key y) b → (foot y p b) ∨ ∃ k x q, k ≠ key ∧ mget N k = some x ∧ owns x ∧ σ k = some (some q) ∧ foot x q b := by
    rintro b ⟨k, z, q, hk, hz, hs, hf⟩
    rw [mget_mset] at hk
    split at hk
    · rename_i e; subst e
      cases hk
      rw [Sig.upd_same] at hs
      cases hs
      exact .inl hf
    · rename_i e
      rw [Sig.upd_other _ _ (fun h => e h.symm)] at hs
      exact .inr ⟨k, z, q, fun h => e h.symm, hk, hz, hs, hf⟩
  refine ⟨I, σ.upd key (some p), hv, ⟨fun b hb => Nat.lt_of_lt_of_le (hok.lt b hb) hsz, fun k z hk => ?_, fun b hb hi => ?_, ?_⟩, ⟨hos, htp, hout, hsz, fun b hb hn => hsame b hb fun ht => hn ht.owned, fun _ h => h, fun _ h => .inl h, fun b hb => ?_, hsig⟩, fun k => ?_⟩
  · rw [mget_mset] at hk
    split at hk
    · rename_i e; subst e
      cases hk
      exact ⟨_, Sig.upd_same _ _ _, ho⟩
    · obtain ⟨q, hq, ho'⟩ := hok.obj k z (hN k z hk)
      refine ⟨q, hsig k q hq, OR.keep K (fun r b hr hf => ?_) ho'⟩
      subst hr
      refine hsame b (ho'.foot_lt hf) ?_
      by_cases hz : owns z
      · exact hlive k z r b hk hz hq hf
      · cases z with
        | imm nn e2 xs => exact hnt b (hf ▸ ho'.2)
        | _ => exact (hz trivial).elim
  · rcases hown b hb with h | ⟨k, x, q, _, hk, hx, hq, hf⟩
    · rcases hfoot b h with h | h
      · have := hok.lt b hi; omega
      · exact hnt b hi h
    · exact hok.sep b ⟨k, x, q, hN k x hk, hx, hq, hf⟩ hi
  · intro k k' z z' q q' b h1 h2 o1 o2 s1 s2 e f
    have key2 : ∀ k' z' q', k' ≠ key → mget N k' = some z' → owns z' → σ k' = some (some q') → foot z' q' b → foot y p b → False := by
      intro k' z' q' hne h2 o2 s2 f g
      rcases hfoot b g with h | h
      · have := hok.blk_lt ⟨k', z', q', hN k' z' h2, o2, s2, f⟩
        omega
      · exact hlive k' z' q' b h2 o2 s2 f h
    rw [mget_mset] at h1 h2
    split at h1 <;> split at h2
    · rename_i e1 e2; rw [← e1, ← e2]
    · rename_i e1 e2
      subst e1
      cases h1
      rw [Sig.upd_same] at s1
      cases s1
      rw [Sig.upd_other _ _ (fun h => e2 h.symm)] at s2
      exact (key2 k' z' q' (fun h => e2 h.symm) h2 o2 s2 f e).elim
    · rename_i e1 e2
      subst e2
      cases h2
      rw [Sig.upd_same] at s2
      cases s2
      rw [Sig.upd_other _ _ (fun h => e1 h.symm)] at s1
      exact (key2 k z q (fun h => e1 h.symm) h1 o1 s1 e f).elim
    · rename_i e1 e2
      rw [Sig.upd_other _ _ (fun h => e1 h.symm)] at s1
      rw [Sig.upd_other _ _ (fun h => e2 h.symm)] at s2
      exact hok.inj k k' z z' q q' b (hN k z h1) (hN k' z' h2) o1 o2 s1 s2 e f
  · rcases hown b hb with h | ⟨k, x, q, _, hk, hx, hq, hf⟩
    · rcases hfoot b h with h | h
      · exact .inr h
      · exact .inl h.owned
    · exact .inl ⟨k, x, q, hN k x hk, hx, hq, hf⟩
  · by_cases h : k = key
    · exact .inr (by omega)
    · exact .inl (Sig.upd_other _ _ h)
/-- an empty one that is nil -/
theorem Post.nilDp (hok : Ok w I σ M) (hfree : σ key = none) {y : MObj} (ho : OR w I (σ.upd key none) none y) {val : AV} {v : Value} (hv : VR w I (σ.upd key none) val v) :
    Post w I σ M key val (mset M key y) v w := by
  have hsig : ∀ k p, σ k = some p → σ.upd key none k = some p := fun k p h => by
    rw [Sig.upd_other _ _ (by rintro rfl; rw [hfree] at h; cases h)]; exact h
  have K : Keep w I σ w I (σ.upd key none) := ⟨fun _ _ => rfl, fun _ h => h, hsig⟩
  have back : ∀ k z p, mget (mset M key y) k = some z → σ.upd key none k = some (some p) → mget M k = some z ∧ σ k = some (some p) := by
    intro k z p hk hs
    rw [mget_mset] at hk
    split at hk
    · rename_i e; subst e
      rw [Sig.upd_same] at hs; cases hs
    · rename_i e
      exact ⟨hk, by rwa [Sig.upd_other _ _ (fun h => e h.symm)] at hs⟩
  have hown : ∀ b, Owned (σ.upd key none) (mset M key y) b → Owned σ M b := by
    rintro b ⟨k, z, p, hk, hz, hs, hf⟩
    obtain ⟨h1, h2⟩ := back k z p hk hs
    exact ⟨k, z, p, h1, hz, h2, hf⟩
  refine ⟨I, σ.upd key none, hv, ⟨hok.lt, fun k z hk => ?_, fun b hb => hok.sep b (hown b hb), fun k k' z z' p p' b h1 h2 o1 o2 s1 s2 e f => ?_⟩,
    ⟨rfl, rfl, rfl, Nat.le_refl _, fun _ _ _ => rfl, fun _ h => h, fun _ h => .inl h, fun b hb => .inl (hown b hb), hsig⟩, fun k => ?_⟩
  · rw [mget_mset] at hk
    split at hk
    · rename_i e; subst e
      cases hk
      exact ⟨none, Sig.upd_same _ _ _, ho⟩
    · obtain ⟨p, hp, ho⟩ := hok.obj k z hk
      exact ⟨p, hsig k p hp, OR.keep K (fun _ _ _ _ => rfl) ho⟩
  · obtain ⟨a1, a2⟩ := back k z p h1 s1
    obtain ⟨b1, b2⟩ := back k' z' p' h2 s2
    exact hok.inj k k' z z' p p' b a1 b1 o1 o2 a2 b2 e f
  · by_cases h : k = key
    · exact .inr (by omega)
    · exact .inl (Sig.upd_other _ _ h)
/-! shapes -/
def isFlat : Sh → Bool
  | .int _ | .bool | .str => true
  | _ => false
theorem Dat.flat {J : Nat → Prop} {s : Sh} (hs : isFlat s = true) {d : D} {v : Value} (h : Dat w I s d v) : Dat w J s d v := by
  cases s <;> first | exact h | simp [isFlat] at hs
theorem flatCol_at : ∀ {e : List Sh} {q : Nat} {s : Sh}, flatCol e = true → e[q]? = some s → isFlat s = true
  | [], _, _, _, h => by simp at h
  | x :: ss, q, s, hf, h => by
    cases q with
    | zero =>
      simp only [List.getElem?_cons_zero, Option.some.injEq] at h
      subst h
      cases x <;> simp_all [flatCol, isFlat]
    | succ q =>
      rw [List.getElem?_cons_succ] at h
      exact flatCol_at (e := ss) (by cases x <;> simp_all [flatCol]) h
theorem othersFlat_at : ∀ {e : List Sh} {j q : Nat} {s : Sh}, othersFlat e j = true → e[q]? = some s → q ≠ j → isFlat s = true
  | [], _, _, _, _, h, _ => by simp at h
  | x :: ss, j, q, s, hf, h, hne => by
    cases j with
    | zero =>
      cases q with
      | zero => exact (hne rfl).elim
      | succ q =>
        rw [List.getElem?_cons_succ] at h
        exact flatCol_at (e := ss) (by cases x <;> simpa [othersFlat] using hf) h
    | succ j =>
      cases q with
      | zero =>
        simp only [List.getElem?_cons_zero, Option.some.injEq] at h
        subst h
        cases x <;> simp_all [othersFlat, isFlat]
      | succ q =>
        rw [List.getElem?_cons_succ] at h
        exact othersFlat_at (e := ss) (j := j) (by cases x <;> simp_all [othersFlat]) h (by omega)
theorem DatC.flat {J : Nat → Prop} : ∀ {e : List Sh} {j : Nat} {ds : List D} {b o : Nat}, flatCol e = true → DatC w I e j ds b o → DatC w J e j ds b o
  | [], _, _, _, _, _, _ => trivial
  | x :: ss, j, ds, b, o, hf, h => by
    simp only [DatC] at h ⊢
    obtain ⟨⟨u, hu, hd⟩, h⟩ := h
    exact ⟨⟨u, hu, hd.flat (flatCol_at (q := 0) hf rfl)⟩, DatC.flat (by cases x <;> simp_all [flatCol]) h⟩
theorem DatL.at : ∀ {e : List Sh} {j : Nat} {ds : List D} {cs : List Value} {q : Nat} {s : Sh}, DatL w I e j ds cs → e[q]? = some s → ∃ u, cs[q]? = some u ∧ Dat w I s (lk ds (j + q)) u
  | [], _, _, _, _, _, _, h => by simp at h
  | x :: ss, j, ds, cs, q, s, hd, h => by
    simp only [DatL] at hd
    obtain ⟨u, cs', rfl, h1, h2⟩ := hd
    cases q with
    | zero =>
      simp only [List.getElem?_cons_zero, Option.some.injEq] at h
      subst h
      exact ⟨u, rfl, h1⟩
    | succ q =>
      rw [List.getElem?_cons_succ] at h
      obtain ⟨u', g1, g2⟩ := DatL.at h2 h
      refine ⟨u', by simpa using g1, ?_⟩
      rwa [show j + 1 + q = j + (q + 1) by omega] at g2
theorem unown_length : ∀ (e : List Sh), (unown e).length = e.length
  | [] => rfl
  | .ptr _ :: ss => by simp [unown, unown_length ss]
  | .int _ :: ss => by simp [unown, unown_length ss]
  | .bool :: ss => by simp [unown, unown_length ss]
  | .str :: ss => by simp [unown, unown_length ss]
  | .slice _ :: ss => by simp [unown, unown_length ss]
  | .other :: ss => by simp [unown, unown_length ss]
theorem ownCol_ok : ∀ {e : List Sh} {i j : Nat} {u : List Sh}, ownCol e i = some (j, u) → i ≤ j ∧ (unown e)[j - i]? = some (.slice u)
  | [], _, _, _, h => by simp [ownCol] at h
  | x :: ss, i, j, u, h => by
    have rest : ownCol ss (i + 1) = some (j, u) → i ≤ j ∧ (x :: unown ss)[j - i]? = some (.slice u) := fun h => by
      obtain ⟨h1, h2⟩ := ownCol_ok h
      refine ⟨by omega, ?_⟩
      rw [show j - i = (j - (i + 1)) + 1 by omega, List.getElem?_cons_succ]
      exact h2
    cases x with
    | ptr u' =>
      simp only [ownCol, Option.some.injEq, Prod.mk.injEq] at h
      obtain ⟨rfl, rfl⟩ := h
      exact ⟨Nat.le_refl _, by simp [unown]⟩
    | _ => exact rest (by simpa [ownCol] using h)
theorem encs_at : ∀ {e : List Sh} {vs : List AV} {ds : List (Unit → D)} {q : Nat} {s : Sh}, encs e vs = some ds → e[q]? = some s → ∃ d, enc s (lget vs q) = some d ∧ ds[q]? = some d
  | [], _, _, _, _, _, h => by simp at h
  | x :: ss, [], _, _, _, h, _ => by simp [encs] at h
  | x :: ss, v :: vs, ds, q, s, he, h => by
    simp only [encs] at he
    split at he <;> (try (cases he; done))
    rename_i d ds' h1 h2
    simp only [Option.some.injEq] at he
    subst he
    cases q with
    | zero =>
      simp only [List.getElem?_cons_zero, Option.some.injEq] at h
      subst h
      exact ⟨d, h1, rfl⟩
    | succ q =>
      rw [List.getElem?_cons_succ] at h
      obtain ⟨d', g1, g2⟩ := encs_at h2 h
      exact ⟨d', g1, by simpa using g2⟩
theorem lget_lset_self : ∀ {cs : List AV} {i : Nat} {v : AV}, i < cs.length → lget (lset cs i v) i = v
  | [], _, _, h => by simp at h
  | _ :: _, 0, _, _ => rfl
  | _ :: cs, i + 1, _, h => by simp only [lset, lget]; exact lget_lset_self (by simpa using h)
theorem DpL.append {e : List Sh} {j : Nat} {xs ys : List (List D)} {us vs : List Value} {F G : Nat → Option Nat} (h : DpL w e j xs us F) (k : DpL w e j ys vs G) :
    DpL w e j (xs ++ ys) (us ++ vs) (fun i => if i < xs.length then F i else G (i - xs.length)) := by
  refine ⟨by simp [h.1, k.1, Nat.add_mul], fun i hi q s hq => ?_⟩
  have hql : q < e.length := (List.getElem?_eq_some_iff.1 hq).1
  by_cases hx : i < xs.length
  · obtain ⟨u, h1, h2⟩ := h.2 i hx q s hq
    have e1 : lk (xs ++ ys) i = lk xs i := by simp [lk, List.getD, List.getElem?_append_left hx]
    have hlt := (List.getElem?_eq_some_iff.1 h1).1
    refine ⟨u, by rw [List.getElem?_append_left hlt]; exact h1, ?_⟩
    simp only [hx, if_true, e1]
    exact h2
  · have hi2 : i - xs.length < ys.length := by simp only [List.length_append] at hi; omega
    obtain ⟨u, h1, h2⟩ := k.2 (i - xs.length) hi2 q s hq
    have e1 : lk (xs ++ ys) i = lk ys (i - xs.length) := by simp [lk, List.getD, List.getElem?_append_right (Nat.le_of_not_lt hx)]
    refine ⟨u, ?_, ?_⟩
    · have hge : xs.length * e.length ≤ i * e.length := Nat.mul_le_mul_right _ (by omega)
      rw [List.getElem?_append_right (by rw [h.1]; omega), h.1, show i * e.length + q - xs.length * e.length = (i - xs.length) * e.length + q by rw [Nat.sub_mul]; omega]
      exact h1
    · simp only [hx, if_false, e1]
      exact h2
theorem flatRow {J : Nat → Prop} {p : Pl} {e : List Sh} {xs : List (List D)} (hf : flatCol e = true) (h : RowR w I p e xs) : RowR w J p e xs := by
  obtain ⟨cs, t, fz, h1, h2, h3, h4, h5, h6, h7, h8⟩ := h
  exact ⟨cs, t, fz, h1, h2, h3, h4, h5, h6, h7, fun i hi => DatC.flat hf (h8 i hi)⟩
end
end Go.Am
/- Rows whose elements own their slices: building one of one element. -/
namespace Go.Am
set_option linter.all false
set_option linter.deprecated false
section
variable {P : Program} {o : Oper} {a : Act} {w w' : World} {I I' : Nat → Prop} {σ : Sig} {M : MS} {key : Nat} {env : List AV} {T : TT}

theorem buildDp_ok (hok : Ok w I σ M) (hfree : σ key = none) (hT : ∀ t i, T t = some i → TIok P t i) {t : Nat} {ti : TI} (ht : tget T t = some ti) {el sz eb : Nat} {esh : List Sh} (htd : ti.td = .slice el sz eb esh) {ei : TI} (hel : tget T el = some ei) {ps : List (Nat × AV)} {qs : List (Nat × Value)} {cs : List AV} {e : Eff}
    (h1 : buildAv (places sz 0 1) (rep ei.zero 1) ps = some cs) (h2 : buildDp M key esh cs = some e) (hvc : ∀ p ∈ e.vc, p ()) (h4 : sz ≤ 16777216)
    (hl : ps.length = qs.length) (hps : ∀ (j i : Nat) (v : AV), ps[j]? = some (i, v) → ∃ u, qs[j]? = some (i, u) ∧ VR w I σ v u) :
    ∃ r w', (Instr.buildSlice t 1 qs.toArray).run P w = .ok r w' ∧ Post w I σ M key e.val (mapply M e.upd) r w' := by
  obtain ⟨d, hu, hd, _⟩ := under_of hT ht
  rw [htd] at hd
  obtain ⟨rfl, hesh, hes0, inf, z, hinf, hisz, hib, hiz, hzs⟩ := sz_of_slice hd
  obtain ⟨inf2, z2, hinf2, hs2, hz2, hzs2, hzr⟩ := (hT el ei hel).info
  obtain rfl : inf = inf2 := by rw [hinf] at hinf2; cases hinf2; rfl
  obtain rfl : z = z2 := by rw [hiz] at hz2; cases hz2; rfl
  have hr0 : VRs w I σ (rep ei.zero 1) ((Array.range (1 * z.cells.size)).map (z.cells[· % z.cells.size]!)).toList := by
    rw [range_rep _ _ (by omega)]
    exact VRs.rep 1 (hzr w I σ)
  obtain ⟨us', g1, g2⟩ := fill_ok (w := w) (I := I) (σ := σ) (fun i => some (i * sz, sz)) (places sz 0 1) (fun i off ft s hf => by
      obtain ⟨rfl, rfl⟩ := fget_places sz 1 0 i off ft s hf
      simp) ps qs _ cs _ h1 hl hps hr0
  unfold buildDp at h2
  split at h2 <;> (try (cases h2; done))
  rename_i j u hcol
  split at h2 <;> (try (cases h2; done))
  rename_i k lo len hk
  split at h2 <;> (try (cases h2; done))
  rename_i nn e' ys hm
  split at h2 <;> (try (cases h2; done))
  rename_i ds hds heu hfu hof hjl
  simp only [Option.some.injEq] at h2
  subst h2
  have heu := shEqs_ok heu
  subst heu
  have hjl : j < esh.length := by rw [Nat.blt] at hjl; exact Nat.le_of_ble_eq_true hjl
  have hcolj := (ownCol_ok hcol).2
  rw [Nat.sub_zero] at hcolj
  have hlo : lo () = 0 := hvc (fun _ => lo () = 0) List.mem_cons_self
  have hlen : len () = (ys ()).length := hvc (fun _ => len () = (ys ()).length) (List.mem_cons_of_mem _ List.mem_cons_self)
  have hcl : cs.length = esh.length := by
    have := (encs_length hds).1
    rw [lset_length, unown_length] at this
    exact this
  have hul : us'.toList.length = esh.length := by rw [VRs.length g2, hcl]
  obtain ⟨uj, huj, hvj⟩ := lget_ok _ _ j g2 (by omega)
  rw [hk] at hvj
  simp only [VR] at hvj
  obtain ⟨pk, hpk, hrow⟩ := ok_row hok (.inl hm)
  rw [hpk] at hvj
  -- the element's cells, where the row may be read as well
  obtain ⟨J, hJ⟩ : ∃ J : Nat → Prop, J = Also I (fun b => ∃ q, pk = some q ∧ q.b = b) := ⟨_, rfl⟩
  have hsl : VR w J σ (.sl false e' ys) uj := by
    simp only [VR]
    refine ⟨?_, by simp⟩
    have := row_as_slice (J := J) hpk hrow (by rw [hpk]; exact hvj) (by omega) (fun b hb => by rw [hJ]; exact .inl hb) (fun q hq => by rw [hJ]; exact .inr ⟨q, hq, rfl⟩)
    rwa [hlo, hlen, List.drop_zero, List.take_length] at this
  have hset : VRs w J σ (lset cs j (.sl false e' ys)) us'.toList := by
    have hK : Keep w I σ w J σ := by rw [hJ]; exact .also _
    have h3 := VRs.lset j (VRs.keep hK _ _ g2) hsl
    have hse : us'.toList.set j uj = us'.toList := by
      apply List.ext_getElem?
      intro i
      by_cases hi : j = i
      · subst hi
        rw [List.getElem?_set_self (by omega), huj]
      · rw [List.getElem?_set_ne hi]
    rwa [hse] at h3
  have hdl : DatL w J (unown esh) 0 (dall ds) us'.toList := by simpa using encs_ok [] hds hset
  have hdj : lk (dall ds) j = D.list (ys ()) := by
    obtain ⟨d, hd1, hd2⟩ := encs_at hds hcolj
    rw [lget_lset_self (by omega)] at hd1
    simp only [enc] at hd1
    split at hd1 <;> (try (cases hd1; done))
    cases hd1
    simp [lk, dall, List.getD, hd2]
  -- the new block
  have hrun : (Instr.buildSlice t 1 qs.toArray).run P w = .ok (.slice (some ⟨w.heap.size, 0, none⟩) 1 1) (w.alloc (.cells us' el)) := by
    have hzv : (zeroValue el).run P w = .ok z w := by simp [zeroValue, typeInfo, hinf, hiz]
    have harr : (Array.range (1 * sz)).map (z.cells[· % z.cells.size]!) = (Array.range (1 * z.cells.size)).map (z.cells[· % z.cells.size]!) := by rw [hzs]
    simp only [Instr.buildSlice, Sem.run_bind, run_under hu, Result.andThen_ok, run_sizeOf_of hinf, hisz, if_neg (show ¬ 1 * sz > 2 ^ 24 by omega), if_neg (show ¬ 1 * sz = 0 by omega), hzv, Sem.run_pure]
    rw [harr]
    simp only [g1]
    rfl
  refine ⟨_, _, hrun, ?_⟩
  have hmore := More.alloc w (.cells us' el)
  have hNM := mdel_sub M k
  have hNk : mget (mdel M k) k = none := by rw [mget_mdel, if_pos rfl]
  -- the block of the element's slice
  obtain ⟨F0, hF0, hown0⟩ : ∃ F0 : Option Nat, (∀ b, F0 = some b → ∃ q, pk = some q ∧ q.b = b) ∧ OwnC (w.alloc (.cells us' el)) F0 (.slice e') (.list (ys ())) uj := by
    rcases hrow with ⟨q, rfl, hr⟩ | ⟨rfl, hy0, he0⟩
    · obtain ⟨off, cap, rfl, k1, k2, k3, k4⟩ := hvj
      have hr0 := hr
      obtain ⟨cs0, ct, fz, hh, r1, r2, r3, r4, r5, r6, r7⟩ := hr
      by_cases hc0 : cap = 0
      · refine ⟨none, by simp, ?_⟩
        have hz : len () = 0 := by omega
        simp only [OwnC, D.toList]
        exact ⟨_, _, by rw [hz], List.eq_nil_of_length_eq_zero (by omega), by omega, by simp, r4⟩
      · have hoff : off = q.o := by
          rcases k1 with k1 | k1
          · omega
          · rw [k1, hlo, Nat.zero_mul, Nat.add_zero]
        refine ⟨some q.b, fun b hb => ⟨q, rfl, by simpa using hb⟩, ?_⟩
        simp only [OwnC, D.toList]
        refine ⟨cap, q, rfl, by rw [hoff, hlen], by omega, by omega, ?_⟩
        exact RowR.keep (fun _ h => h.elim) (fun _ h => h) (hmore.old (Array.getElem?_eq_some_iff.1 hh).1) (flatRow hfu hr0)
    · obtain ⟨rfl, e2, e3⟩ := hvj
      refine ⟨none, by simp, ?_⟩
      simp only [OwnC, D.toList]
      exact ⟨none, 0, rfl, hy0, by simp, by simp, he0⟩
  have hplt : ∀ q, pk = some q → q.b < w.heap.size := fun q hq => by
    subst hq
    obtain ⟨p', hp', ho⟩ := hok.obj k _ hm
    rw [hpk] at hp'
    cases hp'
    exact ho.foot_lt (foot_b _ q)
  refine Post.take (N := mdel M k) (p := ⟨w.heap.size, 1, esh.length, fun b => ∃ q, pk = some q ∧ q.b = b, 0, 0, none⟩) hok hfree hNM rfl rfl rfl (by rw [hmore.size]; omega) (fun b hb _ => hmore.old hb) trivial (fun b hb => ?_) ?_ ?_
  · rcases hb with rfl | ⟨q, rfl, rfl⟩
    · exact .inl (Nat.le_refl _)
    · exact .inr ⟨k, _, q, hm, trivial, hNk, hpk, foot_b _ q⟩
  · refine ⟨us', el, (0, 0), us'.toList, fun _ => F0, hmore.new, by simp [unfrozen], ?_, by rw [unown_length], by rw [unown_length]; omega, by simp, (show 1 ≤ maxLen by decide), by rw [unown_length]; exact hjl, ⟨by simp [unown_length]; simpa using hul, fun i hi q s hq => ?_⟩, fun k c hc => by simpa using hc, fun i i' b hi hi' _ _ => by simp at hi hi'; omega, fun i b _ hb => hF0 b hb, ?_, ?_, rfl, rfl, rfl⟩
    · simpa using hul
    · have hi0 : i = 0 := by simpa using hi
      subst hi0
      obtain ⟨x, hx1, hx2⟩ := hdl.at hq
      rw [Nat.zero_add] at hx2
      refine ⟨x, by simpa using hx1, fun hqj => ?_, fun hqj => ?_⟩
      · subst hqj
        rw [hcolj] at hq
        cases hq
        rw [huj] at hx1
        cases hx1
        show OwnC _ F0 (.slice e') (lk (dall ds) q) uj
        rw [hdj]
        exact hown0
      · have := (hx2.flat (J := fun _ => False) (othersFlat_at hof hq hqj))
        show Dat _ _ s (lk (dall ds) q) x
        exact Dat.keep (fun _ h => h.elim) (fun _ h => h) s _ x this
    · rintro ⟨q, rfl, hq⟩
      have := hplt q rfl
      simp only at hq
      omega
    · rintro b ⟨q, rfl, rfl⟩
      have := hplt q rfl
      rw [hmore.old this]
      exact ⟨_, Array.getElem?_eq_getElem this⟩
  · simp only [VR, Sig.upd_same, MsR]
    exact ⟨0, 1, rfl, .inr (by simp), by simp, by simp, by unfold maxLen; decide⟩
end
end Go.Am
/- Rows whose elements own their slices: append. -/
namespace Go.Am
set_option linter.all false
set_option linter.deprecated false
section
variable {P : Program} {o : Oper} {a : Act} {w w' : World} {I I' : Nat → Prop} {σ : Sig} {M : MS} {key : Nat} {env : List AV} {T : TT}

/-- an element's own slices as cells of memory -/
theorem DpR.first {p : Pl} {e : List Sh} {j : Nat} {xs : List (List D)} {cs : Array Value} {t : TypeId} {fz : Nat × Nat} {us : List Value} {F : Nat → Option Nat} (h : DpR w p e j xs cs t fz us F) {k : Nat} {c : Value} (hk : us[k]? = some c) : w.cell? ⟨p.b, k, none⟩ = some c := by
  rw [cell_of_row w p.b k cs t fz h.blk]
  exact h.pre k c hk
theorem DpL.ones {e : List Sh} {j : Nat} {xs : List (List D)} {us : List Value} {F : Nat → Option Nat} (h0 : 0 < e.length) (h : DpL w e j xs us F) : ∀ c ∈ us, c.oneCell' = true := by
  intro c hc
  obtain ⟨k, hk, rfl⟩ := List.mem_iff_getElem.1 hc
  have hq : k / e.length < xs.length := by
    rw [Nat.div_lt_iff_lt_mul h0, ← h.1]
    exact hk
  have hm := Nat.mod_lt k h0
  obtain ⟨u, h1, h2, h3⟩ := h.2 _ hq (k % e.length) e[k % e.length] (List.getElem?_eq_getElem hm)
  rw [Nat.div_add_mod' k e.length, List.getElem?_eq_getElem hk] at h1
  cases h1
  generalize e[k % e.length] = s at h2 h3
  by_cases hj : k % e.length = j
  · have h2 := h2 hj
    generalize F (k / e.length) = f at h2
    cases f with
    | none =>
      cases s with
      | slice u => obtain ⟨_, _, h2, _⟩ := h2; rw [h2]; rfl
      | _ => exact h2.elim
    | some b =>
      cases s with
      | slice u => obtain ⟨_, _, _, h2, _⟩ := h2; rw [h2]; rfl
      | _ => exact h2.elim
  · have h3 := h3 hj
    cases s with
    | int k => simp only [Dat] at h3; rw [h3.1]; rfl
    | bool => simp only [Dat] at h3; rw [h3]; rfl
    | str => simp only [Dat] at h3; obtain ⟨_, h3, _⟩ := h3; rw [h3]; rfl
    | slice e => simp only [Dat] at h3; obtain ⟨_, _, _, h3, _⟩ := h3; rw [h3]; rfl
    | ptr e => simp [Dat] at h3
    | other => simp [Dat] at h3
theorem appendDp_ok (hok : Ok w I σ M) (hfree : σ key = none) (hT : ∀ t i, T t = some i → TIok P t i) {t : Nat} {ti : TI} (ht : tget T t = some ti) {el esz eb : Nat} {esh : List Sh} (htd : ti.td = .slice el esz eb esh) (ty : TypeId) {s x : AV} {e : Eff} (h : appendDp M key esh eb s x = some e)
    (hvc : ∀ p ∈ e.vc, p ()) {u v : Value} (hs : VR w I σ s u) (hx : VR w I σ x v) :
    ∃ r w', (Builtin.append_ #[t, t] ty #[u, v]).run P w = .ok r w' ∧ Post w I σ M key e.val (mapply M e.upd) r w' := by
  obtain ⟨d, hu, hd, _⟩ := under_of hT ht
  rw [htd] at hd
  obtain ⟨rfl, hesh, hes0, inf, z, hinf, hisz, hib, hiz, hzs⟩ := sz_of_slice hd
  unfold appendDp at h
  split at h <;> (try (cases h; done))
  rename_i n' lo' len' heb
  have heb := Nat.le_of_ble_eq_true heb
  split at h <;> (try (cases h; done))
  rename_i e1 j ys hm'
  obtain ⟨q', hq', hor'⟩ := hok.obj n' _ hm'
  have hlive : ∀ (y : Unit → List (List D)), y = ys → 0 < (y ()).length → ∃ p, q' = some p := fun y hy h0 => by
    cases q' with
    | none => subst hy; rw [hor'.1] at h0; simp at h0
    | some p => exact ⟨p, rfl⟩
  -- what the second row's value is
  have second : 0 < (ys ()).length → lo' () = 0 → len' () = (ys ()).length → ∃ p' c' cs' t' fz' us' F', q' = some p' ∧ v = .slice (some ⟨p'.b, 0, none⟩) (ys ()).length c' ∧ DpR w p' e1 j (ys ()) cs' t' fz' us' F' := by
    intro h0 hlo hlen
    obtain ⟨p', rfl⟩ := hlive ys rfl h0
    obtain ⟨cs', t', fz', us', F', hr⟩ := hor'
    simp only [VR] at hx
    rw [hq'] at hx
    obtain ⟨off, cap, rfl, k1, k2, k3, k4⟩ := hx
    have hoff : off = 0 := by
      rcases k1 with k1 | k1
      · omega
      · rw [k1, hlo, Nat.zero_mul, hr.o0.1]
    exact ⟨p', cap, cs', t', fz', us', F', rfl, by rw [hoff, hlen], hr⟩
  split at h <;> (try (cases h; done))
  · -- onto nil
    rename_i hsh
    have hsh := shEqs_ok hsh
    simp only [Option.some.injEq] at h
    subst h
    have h0 : 0 < (ys ()).length := hvc (fun _ => 0 < (ys ()).length) List.mem_cons_self
    have hbig : (ys ()).length ≤ big := hvc (fun _ => (ys ()).length ≤ big) (List.mem_cons_of_mem _ List.mem_cons_self)
    have hlo : lo' () = 0 := hvc (fun _ => lo' () = 0) (List.mem_cons_of_mem _ (List.mem_cons_of_mem _ List.mem_cons_self))
    have hlen : len' () = (ys ()).length := hvc (fun _ => len' () = (ys ()).length) (List.mem_cons_of_mem _ (List.mem_cons_of_mem _ (List.mem_cons_of_mem _ List.mem_cons_self)))
    obtain ⟨p', c', cs', t', fz', us', F', rfl, rfl, hr⟩ := second h0 hlo hlen
    have hel : e1.length = inf.size := by rw [hsh, unown_length, hesh, hisz]
    simp only [VR] at hs
    subst hs
    have hb2 : (ys ()).length * inf.bytes ≤ 140737488355328 := by
      rw [hib]
      calc (ys ()).length * eb ≤ 1099511627776 * 128 := Nat.mul_le_mul (by unfold big at hbig; omega) heb
        _ ≤ _ := by decide
    have hml : (ys ()).length ≤ maxLen := by unfold big at hbig; unfold maxLen; omega
    have hrun := run_append_nil (P := P) w t ty el inf z hu hinf hiz ⟨p'.b, 0, none⟩ (ys ()).length c' us' (by rw [hr.rows.1, hel]) (fun k c hc => by rw [Addr.add_lit, Nat.zero_add]; exact hr.first hc) (by omega) (by unfold maxLen at hml; omega) (by omega)
    refine ⟨_, _, hrun, ?_⟩
    have hge := grownCap_ge w (ys ()).length 0 el
    have hmore : ∀ x, More w (w.drew.alloc x) x := fun x => ⟨rfl, rfl, rfl, rfl⟩
    have hNk : mget (mdel M n') n' = none := by rw [mget_mdel, if_pos rfl]
    simp only [mapply]
    refine Post.take (N := mdel M n') (p := ⟨w.heap.size, grownCap w (ys ()).length 0 el, e1.length, p'.fs, 0, 0, none⟩) hok hfree (mdel_sub M n') rfl rfl rfl (by rw [(hmore _).size]; omega) (fun b hb _ => (hmore _).old hb) trivial (fun b hb => ?_) ?_ ?_
    · rcases hb with rfl | hb
      · exact .inl (Nat.le_refl _)
      · exact .inr ⟨n', _, p', hm', trivial, hNk, hq', .inr hb⟩
    · have hlt : ∀ b, p'.fs b → b < w.heap.size := fun b hb => by obtain ⟨x, hx⟩ := hr.lt b hb; exact (Array.getElem?_eq_some_iff.1 hx).1
      refine ⟨_, el, (0, 0), us', F', (hmore _).new, by simp [unfrozen], ?_, rfl, hr.pos, hge, grownCap_le_maxLen w _ 0 el hml, hr.col, hr.rows.keep (fun i b hi hF => (hmore _).old (hlt b (hr.own i b hi hF))), fun k c hc => ?_, hr.inj, hr.own, fun hb => ?_, fun b hb => ?_, rfl, rfl, rfl⟩
      · rw [Array.size_append, size_zeroCells, List.size_toArray, hr.rows.1, hzs, ← hisz, ← hel, ← Nat.add_mul]
        congr 1; (try dsimp only); omega
      · rw [Array.getElem?_append_left (by simpa using (List.getElem?_eq_some_iff.1 hc).1)]
        simpa using hc
      · have := hlt _ hb
        simp only at this
        omega
      · rw [(hmore _).old (hlt b hb)]
        exact hr.lt b hb
    · simp only [VR, Sig.upd_same, MsR]
      exact ⟨0, _, rfl, .inr (by simp), by simp, hge, grownCap_le_maxLen w _ 0 el hml⟩
  · -- onto another one
    rename_i n lo len hsh
    have hsh := shEqs_ok hsh
    split at h <;> (try (cases h; done))
    rename_i e2 j2 xs hm hnn
    split at h <;> (try (cases h; done))
    rename_i hsh2 hj2
    have hsh2 := shEqs_ok hsh2
    subst hsh2
    have hj2 := Nat.eq_of_beq_eq_true hj2
    subst hj2
    have hnn : n ≠ n' := Nat.ne_of_beq_eq_false hnn
    simp only [Option.some.injEq] at h
    subst h
    have h0 : 0 < (ys ()).length := hvc (fun _ => 0 < (ys ()).length) List.mem_cons_self
    have hbig : (xs ()).length + (ys ()).length ≤ big := hvc (fun _ => (xs ()).length + (ys ()).length ≤ big) (List.mem_cons_of_mem _ List.mem_cons_self)
    have hlo' : lo' () = 0 := hvc (fun _ => lo' () = 0) (List.mem_cons_of_mem _ (List.mem_cons_of_mem _ List.mem_cons_self))
    have hlen' : len' () = (ys ()).length := hvc (fun _ => len' () = (ys ()).length) (List.mem_cons_of_mem _ (List.mem_cons_of_mem _ (List.mem_cons_of_mem _ List.mem_cons_self)))
    have hlo : lo () = 0 := hvc (fun _ => lo () = 0) (List.mem_cons_of_mem _ (List.mem_cons_of_mem _ (List.mem_cons_of_mem _ (List.mem_cons_of_mem _ List.mem_cons_self))))
    have hlen : len () = (xs ()).length := hvc (fun _ => len () = (xs ()).length) (List.mem_cons_of_mem _ (List.mem_cons_of_mem _ (List.mem_cons_of_mem _ (List.mem_cons_of_mem _ (List.mem_cons_of_mem _ List.mem_cons_self)))))
    obtain ⟨p', c', cs', t', fz', us', F', rfl, rfl, hr'⟩ := second h0 hlo' hlen'
    have hel : e2.length = inf.size := by rw [hsh, unown_length, hesh, hisz]
    have hlt' : ∀ b, p'.fs b → b < w.heap.size := fun b hb => by obtain ⟨x, hx⟩ := hr'.lt b hb; exact (Array.getElem?_eq_some_iff.1 hx).1
    have hb2 : ((xs ()).length + (ys ()).length) * inf.bytes ≤ 140737488355328 := by
      rw [hib]
      calc ((xs ()).length + (ys ()).length) * eb ≤ 1099511627776 * 128 := Nat.mul_le_mul (by unfold big at hbig; omega) heb
        _ ≤ _ := by decide
    have hml : (xs ()).length + (ys ()).length ≤ maxLen := by unfold big at hbig; unfold maxLen; omega
    have hN : ∀ k x, mget (mdel (mdel M n) n') k = some x → mget M k = some x := fun k x h => mdel_sub M n k x (mdel_sub _ n' k x h)
    have hN1 : mget (mdel (mdel M n) n') n = none := by
      rw [mget_mdel]
      split
      · rfl
      · rw [mget_mdel, if_pos rfl]
    have hN2 : mget (mdel (mdel M n) n') n' = none := by rw [mget_mdel, if_pos rfl]
    obtain ⟨q, hq, hor⟩ := hok.obj n _ hm
    simp only [VR] at hs
    rw [hq] at hs
    simp only [mapply]
    have hone' := hr'.rows.ones hr'.pos
    cases q with
    | none =>
      -- the first one is nil
      obtain ⟨rfl, _, e3⟩ := hs
      have hx0 : xs () = [] := hor.1
      have hxl : (xs ()).length = 0 := by rw [hx0]; rfl
      have hrun := run_append_nil (P := P) w t ty el inf z hu hinf hiz ⟨p'.b, 0, none⟩ (ys ()).length c' us' (by rw [hr'.rows.1, hel]) (fun k c hc => by rw [Addr.add_lit, Nat.zero_add]; exact hr'.first hc) (by omega) (by unfold maxLen at hml; omega) (by rw [hxl, Nat.zero_add] at hb2; omega)
      refine ⟨_, _, hrun, ?_⟩
      have hge := grownCap_ge w (ys ()).length 0 el
      have hmore : ∀ x, More w (w.drew.alloc x) x := fun x => ⟨rfl, rfl, rfl, rfl⟩
      refine Post.take (N := mdel (mdel M n) n') (p := ⟨w.heap.size, grownCap w (ys ()).length 0 el, e2.length, p'.fs, 0, 0, none⟩) hok hfree hN rfl rfl rfl (by rw [(hmore _).size]; omega) (fun b hb _ => (hmore _).old hb) trivial (fun b hb => ?_) ?_ ?_
      · rcases hb with rfl | hb
        · exact .inl (Nat.le_refl _)
        · exact .inr ⟨n', _, p', hm', trivial, hN2, hq', .inr hb⟩
      · have hxy : xs () ++ ys () = ys () := by rw [hx0]; rfl
        refine ⟨us'.toArray ++ Builtin.zeroCells z.cells (grownCap w (ys ()).length 0 el - (ys ()).length), el, (0, 0), us', F', ?_⟩
        show DpR _ _ e2 j2 (xs () ++ ys ()) _ _ _ _ _
        rw [hxy]
        refine ⟨(hmore _).new, by simp [unfrozen], ?_, rfl, hr'.pos, hge, grownCap_le_maxLen w _ 0 el (by omega), hr'.col, hr'.rows.keep (fun i b hi hF => (hmore _).old (hlt' b (hr'.own i b hi hF))), fun k c hc => ?_, hr'.inj, hr'.own, fun hb => ?_, fun b hb => ?_, rfl, rfl, rfl⟩
        · rw [Array.size_append, size_zeroCells, List.size_toArray, hr'.rows.1, hzs, ← hisz, ← hel, ← Nat.add_mul]
          congr 1; (try dsimp only); omega
        · rw [Array.getElem?_append_left (by simpa using (List.getElem?_eq_some_iff.1 hc).1)]
          simpa using hc
        · have := hlt' _ hb
          simp only at this
          omega
        · rw [(hmore _).old (hlt' b hb)]
          exact hr'.lt b hb
      · simp only [VR, Sig.upd_same, MsR, hxl, Nat.zero_add]
        exact ⟨0, _, rfl, .inr (by simp), by simp, hge, grownCap_le_maxLen w _ 0 el (by omega)⟩
    | some p =>
      obtain ⟨cs, ct, fz, us, F, hr⟩ := hor
      have hlt : ∀ b, p.fs b → b < w.heap.size := fun b hb => by obtain ⟨x, hx⟩ := hr.lt b hb; exact (Array.getElem?_eq_some_iff.1 hx).1
      -- the two rows' blocks are apart
      have hap : ∀ b, foot (.dp e2 j2 xs) p b → foot (.dp e2 j2 ys) p' b → False := fun b h1 h2 => hnn (hok.inj n n' _ _ p p' b hm hm' trivial trivial hq hq' h1 h2)
      have hrows : DpL w e2 j2 (xs () ++ ys ()) (us ++ us') (fun i => if i < (xs ()).length then F i else F' (i - (xs ()).length)) := hr.rows.append hr'.rows
      have hinj : ∀ i i' b, i < (xs () ++ ys ()).length → i' < (xs () ++ ys ()).length → (if i < (xs ()).length then F i else F' (i - (xs ()).length)) = some b → (if i' < (xs ()).length then F i' else F' (i' - (xs ()).length)) = some b → i = i' := by
        intro i i' b hi hi' g1 g2
        rw [List.length_append] at hi hi'
        split at g1 <;> split at g2
        · exact hr.inj i i' b (by assumption) (by assumption) g1 g2
        · exact (hap b (.inr (hr.own i b (by assumption) g1)) (.inr (hr'.own _ b (by omega) g2))).elim
        · exact (hap b (.inr (hr.own i' b (by assumption) g2)) (.inr (hr'.own _ b (by omega) g1))).elim
        · have := hr'.inj _ _ b (by omega) (by omega) g1 g2
          omega
      have hown : ∀ i b, i < (xs () ++ ys ()).length → (if i < (xs ()).length then F i else F' (i - (xs ()).length)) = some b → p.fs b ∨ p'.fs b := by
        intro i b hi g1
        rw [List.length_append] at hi
        split at g1
        · exact .inl (hr.own i b (by assumption) g1)
        · exact .inr (hr'.own _ b (by omega) g1)
      have htake : ∀ b, (p.b = b ∨ p.fs b ∨ p'.fs b) → Taken σ M (mdel (mdel M n) n') b := fun b hb => by
        rcases hb with hb | hb | hb
        · exact ⟨n, _, p, hm, trivial, hN1, hq, .inl hb⟩
        · exact ⟨n, _, p, hm, trivial, hN1, hq, .inr hb⟩
        · exact ⟨n', _, p', hm', trivial, hN2, hq', .inr hb⟩
      obtain ⟨off, cap, rfl, k1, k2, k3, k4⟩ := hs
      have hcl : us.length = (xs ()).length * inf.size := by rw [hr.rows.1, hel]
      have hcl' : us'.length = (ys ()).length * inf.size := by rw [hr'.rows.1, hel]
      have hcells' : ∀ (k : Nat) (c : Value), us'[k]? = some c → w.cell? ((⟨p'.b, 0, none⟩ : Addr).add k) = some c := fun k c hc => by rw [Addr.add_lit, Nat.zero_add]; exact hr'.first hc
      by_cases hroom : len () + (ys ()).length ≤ cap
      · -- there is room
        have hoff : off = 0 := by
          rcases k1 with k1 | k1
          · omega
          · rw [k1, hlo, Nat.zero_mul, hr.o0.1]
        subst hoff
        have hfit : 0 + len () * inf.size + 0 + us'.length ≤ cs.size := by
          have hcc : (len () + (ys ()).length) * p.sz ≤ p.cap * p.sz := Nat.mul_le_mul_right _ (by omega)
          rw [Nat.add_mul, hr.sz, hel] at hcc
          rw [hr.size, hcl', hr.sz, hel]
          omega
        obtain ⟨w', cs2, st1, st2, st3, st4⟩ := run_storeCells_splice (P := P) p.b (0 + len () * inf.size) us' 0 w cs ct fz hr.blk (hr.unf.unfz hfit) hfit hone'
        rw [Nat.add_zero] at st4
        refine ⟨.slice (some ⟨p.b, 0, none⟩) (len () + (ys ()).length) cap, w', ?_, ?_⟩
        · have hf : (Builtin.firstCells inf.size (ys ()).length (.slice (some ⟨p'.b, 0, none⟩) (ys ()).length c')).run P w = .ok us'.toArray w := run_firstCells_some w inf.size (ys ()).length ⟨p'.b, 0, none⟩ (ys ()).length c' us' hcl' hcells'
          have st1' : (storeCells ((⟨p.b, 0, none⟩ : Addr).add (len () * inf.size)) us').run P w = .ok () w' := by rw [Addr.add_lit]; exact st1
          simp only [Builtin.append_, List.getElem?_toArray, List.getElem?_cons_zero, List.getElem?_cons_succ, Sem.run_bind, run_under hu, Result.andThen_ok, run_sizeOf_of hinf, Sem.run_pure, Builtin.lenOf, Bool.false_eq_true, if_false, Bool.not_false, if_true, hf, if_pos hroom, st1']
        · have hne : ∀ b, (p.fs b ∨ p'.fs b) → w'.heap[b]? = w.heap[b]? := fun b hb => st2.other b (by
            rintro rfl
            rcases hb with hb | hb
            · exact hr.ne hb
            · exact hap _ (.inl rfl) (.inr hb))
          refine Post.take (N := mdel (mdel M n) n') (p := ⟨p.b, p.cap, p.sz, fun b => p.fs b ∨ p'.fs b, 0, 0, none⟩) hok hfree hN st2.os st2.tape st2.output (by rw [st2.size]; omega) (fun b hb hnt => st2.other b (by rintro rfl; exact hnt (htake _ (.inl rfl)))) trivial (fun b hb => .inr (htake b hb)) ?_ ?_
          · refine ⟨cs2, ct, fz, us ++ us', _, st3, st4.unfrozen hr.unf, by rw [st4.1, hr.size], hr.sz, hr.pos, by rw [List.length_append]; (try dsimp only); omega, hr.cap, hr.col, hrows.keep (fun i b hi hF => hne b (hown i b hi hF)), fun k c hc => ?_, hinj, hown, ?_, fun b hb => ?_, rfl, rfl, rfl⟩
            · rw [st4.2 k]
              have hll := (List.getElem?_eq_some_iff.1 hc).1
              rw [List.length_append] at hll
              have hll2 : len () * inf.size = us.length := by rw [hlen, hcl]
              by_cases hk : k < us.length
              · rw [List.getElem?_append_left hk] at hc
                rw [if_neg (by omega)]
                exact hr.pre k c hc
              · rw [List.getElem?_append_right (by omega)] at hc
                rw [if_pos (by omega), show k - (0 + len () * inf.size) = k - us.length by omega]
                exact hc
            · rintro (hb | hb)
              · exact hr.ne hb
              · exact hap _ (.inl rfl) (.inr hb)
            · rw [hne b hb]
              rcases hb with hb | hb
              · exact hr.lt b hb
              · exact hr'.lt b hb
          · simp only [VR, Sig.upd_same, MsR]
            exact ⟨0, cap, by rw [← hlen], .inr (by simp), by omega, by omega, k4⟩
      · -- it grows
        have hoff0 : (xs ()).length ≠ 0 → off = 0 := fun hx0 => by
          rcases k1 with k1 | k1
          · omega
          · rw [k1, hlo, Nat.zero_mul, hr.o0.1]
        have hcells : ∀ (k : Nat) (c : Value), us[k]? = some c → w.cell? ((⟨p.b, off, none⟩ : Addr).add k) = some c := fun k c hc => by
          have hll := (List.getElem?_eq_some_iff.1 hc).1
          have : (xs ()).length ≠ 0 := by rintro h0; rw [hcl, h0] at hll; simp at hll
          rw [Addr.add_lit, hoff0 this, Nat.zero_add]
          exact hr.first hc
        have hrun := run_append_grow (P := P) w t ty el inf z hu hinf hiz ⟨p.b, off, none⟩ (len ()) cap us (by rw [hcl, hlen]) hcells ⟨p'.b, 0, none⟩ (ys ()).length c' us' hcl' hcells' (by omega) (by unfold maxLen at hml; omega) (growslice_fits (by omega) (by rw [hlen]; exact hb2))
        refine ⟨_, _, hrun, ?_⟩
        have hge := grownCap_ge w (len () + (ys ()).length) cap el
        have hmore : ∀ x, More w (w.drew.alloc x) x := fun x => ⟨rfl, rfl, rfl, rfl⟩
        have hltb : ∀ b, (p.fs b ∨ p'.fs b) → b < w.heap.size := fun b hb => hb.elim (hlt b) (hlt' b)
        refine Post.take (N := mdel (mdel M n) n') (p := ⟨w.heap.size, grownCap w (len () + (ys ()).length) cap el, e2.length, fun b => p.fs b ∨ p'.fs b, 0, 0, none⟩) hok hfree hN rfl rfl rfl (by rw [(hmore _).size]; omega) (fun b hb _ => (hmore _).old hb) trivial (fun b hb => ?_) ?_ ?_
        · rcases hb with rfl | hb
          · exact .inl (Nat.le_refl _)
          · exact .inr (htake b (.inr hb))
        · refine ⟨_, el, (0, 0), us ++ us', _, (hmore _).new, by simp [unfrozen], ?_, rfl, hr.pos, by rw [List.length_append, ← hlen]; exact hge, grownCap_le_maxLen w _ _ el (by omega), hr.col, hrows.keep (fun i b hi hF => (hmore _).old (hltb b (hown i b hi hF))), fun k c hc => ?_, hinj, hown, fun hb => ?_, fun b hb => ?_, rfl, rfl, rfl⟩
          · rw [Array.size_append, Array.size_append, size_zeroCells, List.size_toArray, List.size_toArray, hcl, hcl', hzs, ← hisz, hel, ← hlen, ← Nat.add_mul, ← Nat.add_mul]
            congr 1; (try dsimp only); omega
          · rw [Array.getElem?_append_left (by rw [Array.size_append, List.size_toArray, List.size_toArray, ← List.length_append]; exact (List.getElem?_eq_some_iff.1 hc).1)]
            simpa using hc
          · have := hltb _ hb
            simp only at this
            omega
          · rw [(hmore _).old (hltb b hb)]
            rcases hb with hb | hb
            · exact hr.lt b hb
            · exact hr'.lt b hb
        · simp only [VR, Sig.upd_same, MsR]
          exact ⟨0, grownCap w (len () + (ys ()).length) cap el, by rw [hlen], .inr (by simp), by simp, by rw [← hlen]; exact hge, grownCap_le_maxLen w _ _ el (by omega)⟩
end
end Go.Am
/- One operation, whichever it is. -/
namespace Go.Am
set_option linter.all false
set_option linter.deprecated false
section
variable {P : Program} {o : Oper} {a : Act} {w w' : World} {I I' : Nat → Prop} {σ σ' τ : Sig} {M : MS} {key : Nat} {env : List AV} {T : TT} {G : Ctx} {res : List (Nat × Bool)}

theorem Does.pure (hok : Ok w I σ M) {e : Eff} {s : Sem Value} (hs : (execOp a.eval o).run P w = ((s >>= fun v => Pure.pure (Next.value v)) : Sem Next).run P w) {r : Value} (hr : s.run P w = .ok r w) (hv : VR w I σ e.val r) (hu : e.upd = []) : Does P o a w (Post w I σ M key e.val (mapply M e.upd)) := by
  rw [hu]
  refine Does.value (v := r) (w' := w) ?_ (.same hok hv)
  rw [hs]
  simp [hr]
theorem Does.made {e : Eff} {R : Value → World → Prop} {s : Sem Value} (hs : (execOp a.eval o).run P w = ((s >>= fun v => Pure.pure (Next.value v)) : Sem Next).run P w) {r : Value} (hr : s.run P w = .ok r w') (h : R r w') : Does P o a w R := by
  refine Does.value (v := r) (w' := w') ?_ h
  rw [hs]
  simp [hr]
theorem aop_ok (hT : ∀ t i, T t = some i → TIok P t i) (hG : ∀ f C, G f = some C → CSound P f C) (hok : Ok w I σ M) (henv : EnvR w I σ env a.tmps) (hres : ∀ s b, rget res s = some b → a.tmps.getD s undef = .bool b)
    (hfree : ∀ k, key ≤ k → k < key + 8 → σ k = none) {e : Eff} (h : aop T G env res M key o.op = some e) (hvc : ∀ p ∈ e.vc, p ()) : Does P o a w (Post w I σ M key e.val (mapply M e.upd)) := by
  have hf0 : σ key = none := hfree key (Nat.le_refl _) (by omega)
  unfold aop at h
  split at h <;> (try (cases h; done)) <;> rename_i hop
  · -- move
    rename_i x
    simp only [Eff.pure, Option.some.injEq] at h
    subst h
    exact Does.value (by simp only [execOp, hop]; rfl) (.same hok (opv_ok henv x))
  · rename_i x
    simp only [Eff.pure, Option.some.injEq] at h
    subst h
    exact Does.value (by simp only [execOp, hop]; rfl) (.same hok (opv_ok henv x))
  · -- pick
    rename_i c x y
    have hc := opv_ok henv c
    have hx := opv_ok henv x
    have hy := opv_ok henv y
    have hres' : ∀ b, resOf res c = some b → a.eval c = .bool b := fun b hb => by
      unfold resOf at hb
      split at hb
      · exact hres _ _ hb
      · simp only [Option.some.injEq] at hb; subst hb; rfl
      · cases hb
    unfold pickAv at h
    split at h
    · rename_i hb
      simp only [Eff.pure, Option.some.injEq] at h
      subst h
      exact Does.value (by simp only [execOp, hop, hres' _ hb]; rfl) (.same hok hx)
    · rename_i hb
      simp only [Eff.pure, Option.some.injEq] at h
      subst h
      exact Does.value (by simp only [execOp, hop, hres' _ hb]; rfl) (.same hok hy)
    · split at h <;> (try (cases h; done))
      rename_i f g k e1 e2 e3
      simp only [Eff.pure, Option.some.injEq] at h
      subst h
      rw [e1] at hc
      rw [e2] at hx
      rw [e3] at hy
      simp only [VR] at hc hx hy
      refine Does.value (v := .bool (bif f () then g () else k ())) (w' := w) ?_ (.same hok (by simp only [VR]))
      simp only [execOp, hop, hc, hx, hy]
      cases f () <;> rfl
  · -- alloc
    rename_i t
    split at h <;> (try (cases h; done))
    rename_i ti ht
    simp only [Option.some.injEq] at h
    subst h
    obtain ⟨r, w', h1, h2⟩ := alloc_ok hok hf0 (hT t ti ht)
    exact Does.made (e := ⟨[], .un, [], []⟩) (by simp only [execOp, hop]) h1 h2
  · -- box
    rename_i t x
    split at h <;> (try (cases h; done))
    rename_i ti ht
    split at h <;> (try (cases h; done))
    rename_i h1 h2
    simp only [Option.some.injEq] at h
    subst h
    obtain ⟨r, w', h1, h2⟩ := box_ok (P := P) (t := t) hok hf0 h2 (opv_ok henv x)
    exact Does.made (e := ⟨[], .un, [], []⟩) (by simp only [execOp, hop]) h1 h2
  · -- build
    rename_i t parts
    obtain ⟨p1, p2⟩ := pairs_ok henv parts.toList
    have hrun : (execOp a.eval o).run P w = ((Instr.build t (parts.toList.map fun (i, x) => (i, a.eval x)).toArray >>= fun v => Pure.pure (Next.value v)) : Sem Next).run P w := by
      simp only [execOp, hop]
      have : parts.map (fun (i, x) => (i, a.eval x)) = (parts.toList.map fun (i, x) => (i, a.eval x)).toArray := by
        apply Array.ext'
        simp
      rw [this]
    split at h <;> (try (cases h; done))
    rename_i ti ht
    split at h <;> (try (cases h; done))
    · rename_i fs c htd
      split at h <;> (try (cases h; done))
      rename_i cs hcs
      simp only [Eff.pure, Option.some.injEq] at h
      subst h
      obtain ⟨r, h1, h2⟩ := build_ok (w := w) (I := I) (σ := σ) hT ht (.inl ⟨c, htd⟩) hcs p1 p2
      exact Does.made (e := ⟨[], .un, [], []⟩) hrun h1 (.same hok h2)
    · rename_i n el sz htd
      split at h <;> (try (cases h; done))
      rename_i cs hcs
      simp only [Eff.pure, Option.some.injEq] at h
      subst h
      obtain ⟨r, h1, h2⟩ := build_ok (w := w) (I := I) (σ := σ) hT ht (.inr ⟨n, el, sz, htd, rfl⟩) hcs p1 p2
      exact Does.made (e := ⟨[], .un, [], []⟩) hrun h1 (.same hok h2)
  · -- buildSlice
    rename_i t len parts
    obtain ⟨p1, p2⟩ := pairs_ok henv parts.toList
    have hrun : (execOp a.eval o).run P w = ((Instr.buildSlice t len (parts.toList.map fun (i, x) => (i, a.eval x)).toArray >>= fun v => Pure.pure (Next.value v)) : Sem Next).run P w := by
      simp only [execOp, hop]
      have : parts.map (fun (i, x) => (i, a.eval x)) = (parts.toList.map fun (i, x) => (i, a.eval x)).toArray := by
        apply Array.ext'
        simp
      rw [this]
    split at h <;> (try (cases h; done))
    rename_i ti ht
    split at h <;> (try (cases h; done))
    rename_i el sz eb esh htd
    split at h <;> (try (cases h; done))
    rename_i ei hei
    split at h <;> (try (cases h; done))
    rename_i cs hcs
    split at h
    · split at h <;> (try (cases h; done))
      rename_i hl1 hsz _
      have hl1 := Nat.eq_of_beq_eq_true hl1
      subst hl1
      obtain ⟨r, w', h1, h2⟩ := buildDp_ok hok hf0 hT ht htd hei hcs h hvc (Nat.le_of_ble_eq_true hsz) p1 p2
      exact Does.made (e := ⟨[], .un, [], []⟩) hrun h1 h2
    split at h <;> (try (cases h; done))
    rename_i cs' lent vc hro
    split at h <;> (try (cases h; done))
    rename_i ds hds
    split at h <;> (try (cases h; done))
    rename_i hsz _
    simp only [Option.some.injEq] at h
    subst h
    obtain ⟨r, w', h1, h2⟩ := buildSlice_ok hok hf0 hT ht htd hei hcs hro hvc hds (Nat.le_of_ble_eq_true hsz) p1 p2
    refine Does.made (e := ⟨[], .un, [], []⟩) hrun h1 ?_
    rw [mapply_append]
    exact h2
  · -- load
    rename_i t x
    split at h <;> (try (cases h; done))
    rename_i ti ht
    obtain ⟨r, h1, h2, h3⟩ := load1_ok hok (hT t ti ht) _ _ e h hvc (opv_ok henv x)
    exact Does.pure hok (by simp only [execOp, hop]) h1 h2 h3
  · -- store
    rename_i t x y
    split at h <;> (try (cases h; done))
    rename_i ti ht
    obtain ⟨w', h1, h2⟩ := store1_ok (key := key) hok (hT t ti ht) h hvc (opv_ok henv x) (opv_ok henv y)
    have hun : e.val = .un := by
      unfold store1 at h
      split at h <;> (try (cases h; done))
      · split at h <;> (try (cases h; done))
        split at h <;> (try (cases h; done))
        simp only [Option.some.injEq] at h; subst h; rfl
      · split at h <;> (try (cases h; done))
        split at h <;> (try (cases h; done))
        split at h <;> (try (cases h; done))
        split at h <;> (try (cases h; done)) <;> simp only [Option.some.injEq] at h <;> subst h <;> rfl
    refine Does.skip (w' := w') ?_ h2
    simp only [execOp, hop, Sem.run_bind, h1, Result.andThen_ok, Sem.run_pure]
  · -- nilCheck
    rename_i x
    split at h <;> (try (cases h; done))
    rename_i hn
    simp only [Eff.pure, Option.some.injEq] at h
    subst h
    have hx := opv_ok henv x
    refine Does.value (v := a.eval x) (w' := w) ?_ (.same hok hx)
    simp only [execOp, hop]
    unfold isNil at hn
    split at hn <;> (try (cases hn; done)) <;> rename_i heq <;> rw [heq] at hx <;> simp only [VR] at hx
    · obtain ⟨ad, len, cap, hx⟩ := hx.2 trivial
      rw [hx]; rfl
    · obtain ⟨b, off, hx, _⟩ := hx
      rw [hx]; rfl
    · unfold PtR at hx
      split at hx
      · rw [hx]; rfl
      · exact hx.elim
    · unfold PtR at hx
      split at hx
      · rw [hx]; rfl
      · exact hx.elim
    · obtain ⟨us, hx, _⟩ := hx
      rw [hx]; rfl
  · -- binOp
    rename_i op t x y t'
    obtain ⟨r, h1, h2, h3⟩ := binAv_ok (w := w) (I := I) (σ := σ) hT op t x y _ _ _ _ e h hvc (opv_ok henv x) (opv_ok henv y)
    exact Does.pure hok (by simp only [execOp, hop]) h1 h2 h3
  · -- unOp
    rename_i op t x
    obtain ⟨r, h1, h2, h3⟩ := unAv_ok (P := P) op _ _ e h (opv_ok henv x)
    exact Does.pure hok (by simp only [execOp, hop]) h1 h2 h3
  · -- convert
    rename_i s d x
    obtain ⟨r, w', h1, h2⟩ := conv_ok hok hf0 hT h hvc (opv_ok henv x)
    exact Does.made (e := e) (by simp only [execOp, hop]) h1 h2
  · -- makeFunc
    rename_i f first caps
    split at h <;> (try (cases h; done))
    rename_i hfirst
    simp only [Eff.pure, Option.some.injEq] at h
    subst h
    refine Does.value (v := .func (.func f) #[] (caps.map a.eval)) (w' := w) ?_ (.same hok (by simp only [VR]; exact ⟨_, rfl, by simpa using opvs_ok henv caps.toList⟩))
    have : first = #[] := by apply Array.ext'; simpa using hfirst
    subst this
    simp only [execOp, hop, Instr.makeFunc, Array.map_empty]
    rfl
  · -- makeSlice
    rename_i t l c
    split at h <;> (try (cases h; done))
    rename_i ti n m ht hl hc
    split at h <;> (try (cases h; done))
    rename_i el sz eb esh htd
    split at h <;> (try (cases h; done))
    rename_i ei hei heb
    split at h <;> (try (cases h; done))
    rename_i ds hds
    simp only [Option.some.injEq] at h
    subst h
    have hl' := opv_ok henv l
    have hc' := opv_ok henv c
    rw [hl] at hl'
    rw [hc] at hc'
    simp only [VR] at hl' hc'
    have v1 : n () = m () := hvc (fun _ => n () = m ()) List.mem_cons_self
    have v2 : 0 ≤ n () ∧ n () ≤ big := hvc (fun _ => 0 ≤ n () ∧ n () ≤ big) (List.mem_cons_of_mem _ List.mem_cons_self)
    obtain ⟨r, w', h1, h2⟩ := makeSlice_ok hok hf0 hT ht htd hei (Nat.le_of_ble_eq_true heb) hds v1 v2.1 v2.2
    exact Does.made (e := ⟨[], .un, [], []⟩) (s := Instr.makeSlice t (.int .i64 (n ())) (.int .i64 (m ()))) (by simp only [execOp, hop, hl'.1, hc'.1]) (r := r) (w' := w') h1 h2
  · -- slice
    rename_i t x lo hi mx
    split at h <;> (try (cases h; done))
    rename_i ti ht
    have om : ∀ (y : Option Operand), (∀ q, omap env y = some q → ∃ u, y.map a.eval = some u ∧ VR w I σ q u) ∧ (omap env y = none → y.map a.eval = none) := fun y => by
      cases y with
      | none => exact ⟨fun q hq => (by cases hq), fun _ => rfl⟩
      | some z => exact ⟨fun q hq => (by cases hq; exact ⟨_, rfl, opv_ok henv z⟩), fun hn => (by cases hn)⟩
    split at h <;> (try (cases h; done))
    rename_i hmh
    obtain ⟨r, h1, h2, h3⟩ := sliceAv_ok hok hT ht _ _ _ _ (a.eval x) (lo.map a.eval) (hi.map a.eval) (mx.map a.eval) e h hvc (opv_ok henv x) (om lo).1 (om lo).2 (om hi).1 (om hi).2 (om mx).1 (om mx).2 (by
      cases mx with
      | none => exact .inl rfl
      | some z =>
        cases hi with
        | none => exact (hmh z rfl rfl).elim
        | some y => right; simp)
    exact Does.pure hok (by simp only [execOp, hop]) h1 h2 h3
  · -- fieldAddr
    rename_i s x f
    split at h <;> (try (cases h; done))
    rename_i ti ht
    split at h <;> (try (cases h; done))
    rename_i fs c htd
    split at h <;> (try (cases h; done))
    rename_i off ft sz hf
    split at h <;> (try (cases h; done))
    rename_i v h1 h2
    simp only [Eff.pure, Option.some.injEq] at h
    subst h
    obtain ⟨r, g1, g2⟩ := fieldAddrAv_ok hT ht htd hf (Nat.le_of_ble_eq_true h1) h2 (opv_ok henv x)
    exact Does.pure hok (by simp only [execOp, hop]) g1 g2 rfl
  · -- field
    rename_i s x f
    split at h <;> (try (cases h; done))
    rename_i ti cs ht hx
    split at h <;> (try (cases h; done))
    rename_i fs c htd
    split at h <;> (try (cases h; done))
    rename_i off ft sz hf
    split at h <;> (try (cases h; done))
    rename_i fi hfi h1 h2
    simp only [Eff.pure, Option.some.injEq] at h
    subst h
    rw [llen_eq] at h1
    have hv := opv_ok henv x
    rw [hx] at hv
    simp only [VR] at hv
    obtain ⟨us, hus, hv⟩ := hv
    obtain ⟨d, hu, hd, _⟩ := under_of hT ht
    rw [htd] at hd
    obtain ⟨fields, rfl, hfs, _⟩ := hd
    obtain ⟨g, hg, e1, e2, inf, hinf, hsz⟩ := hfs.get hf
    obtain ⟨inf', z', hinf', hs', _⟩ := (hT ft fi hfi).info
    have hes : fi.size = sz := by rw [hinf] at hinf'; cases hinf'; rw [← hs', hsz]
    obtain ⟨v, g1, g2⟩ := run_part_of (hT ft fi hfi) hv (off := off) (by rw [hes]; exact Nat.le_of_ble_eq_true h1) (by rw [hes]; exact Nat.le_of_ble_eq_true h2)
    refine Does.pure hok (s := Instr.field s (a.eval x) f) (by simp only [execOp, hop]) (r := v) ?_ g2 rfl
    have hg' : fields[f]? = some g := by simpa using hg
    simp only [Instr.field, Sem.run_bind, run_under hu, Result.andThen_ok, hg', hus, asAgg, Sem.run_pure, e1, e2, g1]
  · -- indexAddr
    rename_i t x i
    split at h <;> (try (cases h; done))
    rename_i ti ht
    obtain ⟨r, h1, h2, h3⟩ := indexAddrAv_ok hok hT ht _ _ _ _ e h hvc (opv_ok henv x) (opv_ok henv i)
    exact Does.pure hok (by simp only [execOp, hop]) h1 h2 h3
  · -- index
    rename_i t x i
    split at h <;> (try (cases h; done))
    rename_i sz ag ze s k n ht hx hi
    simp only [Eff.chk, Option.some.injEq] at h
    subst h
    have hv := opv_ok henv x
    have hv2 := opv_ok henv i
    rw [hx] at hv
    rw [hi] at hv2
    obtain ⟨q0, q1⟩ : 0 ≤ n () ∧ n () < ((s ()).length : Int) := hvc (fun _ => 0 ≤ n () ∧ n () < ((s ()).length : Int)) (List.mem_singleton.2 rfl)
    obtain ⟨r, h1, h2⟩ := indexStr_ok hT ht rfl hv hv2 q0 q1
    exact Does.pure hok (by simp only [execOp, hop]) h1 h2 rfl
  · -- extract
    rename_i x i
    split at h <;> (try (cases h; done))
    rename_i vs hx
    split at h <;> (try (cases h; done))
    rename_i hi
    simp only [Eff.pure, Option.some.injEq] at h
    subst h
    have hv := opv_ok henv x
    rw [hx] at hv
    simp only [VR] at hv
    obtain ⟨us, hus, hv⟩ := hv
    rw [llen_eq, Nat.blt] at hi
    obtain ⟨u, h1, h2⟩ := lget_ok vs us.toList i hv (Nat.le_of_ble_eq_true hi)
    refine Does.pure hok (s := Instr.extract (a.eval x) i) (by simp only [execOp, hop]) (r := u) ?_ h2 rfl
    have h1' : us[i]? = some u := by simpa using h1
    simp only [hus, Instr.extract, h1', Sem.run_pure]
  · -- call
    rename_i c
    have hargs := opvs_ok henv c.args.toList
    split at h <;> rename_i hcal
    · -- builtin
      rename_i b
      have hrun : ∀ (s : Sem Value), (∀ cs, builtin b c.argTypes o.type cs (c.args.map a.eval) = (s >>= fun v => Pure.pure (Next.value v))) →
          (execOp a.eval o).run P w = ((s >>= fun v => Pure.pure (Next.value v)) : Sem Next).run P w := fun s hs => by
        simp only [execOp, hop, resolve, hcal, pure_bind, invoke]
        exact congrArg (fun x => Sem.run P x w) (hs _)
      unfold builtinAv at h
      split at h <;> (try (cases h; done))
      · -- len
        rename_i x hx
        split at h <;> (try (cases h; done))
        rename_i t ts hats
        split at h <;> (try (cases h; done))
        rename_i ti ht
        rw [hx] at hargs
        simp only [VRs] at hargs
        obtain ⟨u, us', hus, hu, rfl⟩ := hargs
        obtain ⟨r, h1, h2, h3⟩ := lenAv_ok hT ht o.type _ _ e h hu
        have hc : c.args.map a.eval = #[u] := by apply Array.ext'; simpa using hus
        refine Does.pure hok (hrun (Builtin.len_ c.argTypes o.type (c.args.map a.eval)) fun _ => rfl) (r := r) ?_ h2 h3
        rw [hc]
        have e1 : c.argTypes[0]? = some t := by rw [← Array.getElem?_toList, hats]; rfl
        simp only [Builtin.len_, e1] at h1 ⊢
        exact h1
      · -- append
        rename_i s x hx
        split at h <;> (try (cases h; done))
        rename_i t t' hats
        split at h <;> (try (cases h; done))
        rename_i ti ht
        split at h <;> (try (cases h; done))
        rename_i el esz eb esh htd
        rw [hx] at hargs
        simp only [VRs] at hargs
        obtain ⟨u, us', hus, hu, v, us2, rfl, hv, rfl⟩ := hargs
        have hc : c.args.map a.eval = #[u, v] := by apply Array.ext'; simpa using hus
        have ha : c.argTypes = #[t, t'] := by apply Array.ext'; simpa using hats
        split at h
        · rename_i htt
          have htt := Nat.eq_of_beq_eq_true htt
          subst htt
          obtain ⟨r, w', h1, h2⟩ : ∃ r w', (Builtin.append_ #[t, t] o.type #[u, v]).run P w = .ok r w' ∧ Post w I σ M key e.val (mapply M e.upd) r w' := by
            split at h
            · exact appendDp_ok hok hf0 hT ht htd o.type h hvc hu hv
            · exact append_ok hok hf0 hT ht htd o.type h hvc hu hv
          refine Does.made (e := ⟨[], .un, [], []⟩) (hrun (Builtin.append_ c.argTypes o.type (c.args.map a.eval)) fun _ => rfl) (r := r) (w' := w') ?_ h2
          rw [hc, ha]
          exact h1
        · split at h <;> (try (cases h; done))
          rename_i sz' ag' zr' ei n htx hei
          split at h <;> (try (cases h; done))
          rename_i ds hds
          obtain ⟨d, hxu, hxd, _⟩ := under_of hT htx
          have hxd : d = .int .i64 := hxd
          subst hxd
          simp only [VR] at hv
          obtain ⟨rfl, _⟩ := hv
          obtain ⟨r, w', h1, h2⟩ := appendz_ok hok hf0 hT ht htd hei hds hxu o.type h hvc hu
          refine Does.made (e := ⟨[], .un, [], []⟩) (hrun (Builtin.append_ c.argTypes o.type (c.args.map a.eval)) fun _ => rfl) (r := r) (w' := w') ?_ h2
          rw [hc, ha]
          exact h1
      · -- min
        rename_i k f vs hx
        split at h <;> (try (cases h; done))
        rename_i n hn
        simp only [Eff.pure, Option.some.injEq] at h
        subst h
        rw [hx] at hargs
        rw [VRs] at hargs
        obtain ⟨u, us', hus, hu, hv⟩ := hargs
        simp only [VR] at hu
        obtain ⟨rfl, hw⟩ := hu
        obtain ⟨g1, g2⟩ := minInts_ok (P := P) k vs us' f n hn hw hv
        refine Does.pure hok (hrun (Builtin.min_ c.argTypes o.type (c.args.map a.eval)) fun _ => rfl) (r := .int k (n ())) ?_ (by simp only [VR, true_and]; exact g2) rfl
        have hc : (c.args.map a.eval).toList = .int k (f ()) :: us' := by simpa using hus
        simp only [Builtin.min_, hc]
        exact g1
      · -- copy
        rename_i n lo len src hx
        split at h <;> (try (cases h; done))
        rename_i nn ee xs e2 ys r vc hm hel
        split at h <;> (try (cases h; done))
        rename_i hnm hsh
        split at h <;> (try (cases h; done))
        rename_i t ts hats
        split at h <;> (try (cases h; done))
        rename_i ti ht
        split at h <;> (try (cases h; done))
        rename_i el esz eb esh htd
        split at h <;> (try (cases h; done))
        rename_i hlen
        simp only [Option.some.injEq] at h
        subst h
        have hsh := shEqs_ok hsh
        subst hsh
        rw [hx] at hargs
        simp only [VRs] at hargs
        obtain ⟨u, us', hus, hu, v, us2, rfl, hv, rfl⟩ := hargs
        obtain ⟨r', w', h1, h2⟩ := copy_ok (key := key) (t' := (c.argTypes.toList[1]?).getD 0) hok hT ht htd o.type hm hel (Nat.eq_of_beq_eq_true hlen) (hvc (fun _ => lo () + len () ≤ (xs ()).length) List.mem_cons_self) (fun p hp => hvc p (List.mem_cons_of_mem _ hp)) hu hv
        have hc : c.args.map a.eval = #[u, v] := by apply Array.ext'; simpa using hus
        refine Does.made (e := ⟨[], .un, [], []⟩) (hrun (Builtin.copy_ c.argTypes o.type (c.args.map a.eval)) fun _ => rfl) (r := r') (w' := w') ?_ h2
        rw [hc]
        have e1 : c.argTypes[0]? = some t := by rw [← Array.getElem?_toList, hats]; rfl
        simp only [Builtin.copy_, e1] at h1 ⊢
        exact h1
    · -- a function
      rename_i f
      split at h <;> (try (cases h; done))
      rename_i g caps hf
      split at h <;> (try (cases h; done))
      rename_i C hC
      have hfv := opv_ok henv f
      rw [hf] at hfv
      simp only [VR] at hfv
      obtain ⟨us, hus, hfv⟩ := hfv
      rw [lapp_eq] at h
      have := call_ok hok hfree (hG g C hC) h hvc (hargs.append hfv)
      intro K Q hK
      unfold Oper.wp
      have := this o a K Q hK
      rw [show (execOp a.eval o).run P w = (callFunc g (c.args.toList.map a.eval ++ us.toList).toArray).run P w from ?_]
      · exact this
      · simp only [execOp, hop, resolve, hcal, hus, Deferred.ofValue, pure_bind, invoke]
        congr 2
        apply Array.ext'
        simp
    · cases h
end
end Go.Am
/- What an operation looks at: its operands' slots, the keys that it reads. -/
namespace Go.Am
set_option linter.all false
set_option linter.deprecated false
section
variable {M N : MS} {T : TT} {G : Ctx} {env env' : List AV} {res res' : List (Nat × Bool)}

def opnds : Op → List Operand
  | .move x | .assign x | .box _ x | .load _ x | .nilCheck x | .unOp _ _ x | .convert _ _ x | .fieldAddr _ x _ | .field _ x _ | .extract x _ => [x]
  | .pick c a b => [c, a, b]
  | .build _ ps | .buildSlice _ _ ps => ps.toList.map (·.2)
  | .store _ a v | .binOp _ _ a v _ | .makeSlice _ a v | .indexAddr _ a v | .index _ a v => [a, v]
  | .makeFunc _ _ caps => caps.toList
  | .slice _ x l h m => x :: (l.toList ++ (h.toList ++ m.toList))
  | .call c => (match c.callee with | .value f => [f] | _ => []) ++ c.args.toList
  | _ => []

theorem opvs_env : ∀ {xs : List Operand}, (∀ x ∈ xs, opv env' x = opv env x) → opvs env' xs = opvs env xs
  | [], _ => rfl
  | x :: xs, h => by simp only [opvs]; rw [h x List.mem_cons_self, opvs_env fun y hy => h y (List.mem_cons_of_mem _ hy)]
theorem pairs_env : ∀ {ps : List (Nat × Operand)}, (∀ x ∈ ps.map (·.2), opv env' x = opv env x) → pairs env' ps = pairs env ps
  | [], _ => rfl
  | (i, x) :: ps, h => by simp only [pairs]; rw [h x (by simp), pairs_env fun y hy => h y (by simp at hy ⊢; exact .inr hy)]
theorem omap_env {x : Option Operand} (h : ∀ y ∈ x.toList, opv env' y = opv env y) : omap env' x = omap env x := by
  cases x with
  | none => rfl
  | some y => simp only [omap]; rw [h y (by simp)]
theorem aop_env {key : Nat} {o : Op} (h : ∀ x ∈ opnds o, opv env' x = opv env x) (hr : ∀ x ∈ opnds o, resOf res' x = resOf res x) : aop T G env' res' M key o = aop T G env res M key o := by
  unfold aop
  split
  · rw [h _ (by simp [opnds])]
  · rw [h _ (by simp [opnds])]
  · rename_i c a b
    rw [hr c (by simp [opnds]), h c (by simp [opnds]), h a (by simp [opnds]), h b (by simp [opnds])]
  · rfl
  · rw [h _ (by simp [opnds])]
  · rw [pairs_env h]
  · rw [pairs_env h]
  · rw [h _ (by simp [opnds])]
  · rename_i t a x
    rw [h a (by simp [opnds]), h x (by simp [opnds])]
  · rw [h _ (by simp [opnds])]
  · rename_i op t x y _
    rw [h x (by simp [opnds]), h y (by simp [opnds])]
  · rw [h _ (by simp [opnds])]
  · rw [h _ (by simp [opnds])]
  · rename_i f first caps
    have e1 : opvs env' caps.toList = opvs env caps.toList := opvs_env h
    rw [e1]
  · rename_i t l c
    rw [h l (by simp [opnds]), h c (by simp [opnds])]
  · rename_i t x lo hi mx
    have e1 : omap env' lo = omap env lo := omap_env fun y hy => h y (by simp only [opnds, List.mem_cons, List.mem_append]; exact .inr (.inl hy))
    have e2 : omap env' hi = omap env hi := omap_env fun y hy => h y (by simp only [opnds, List.mem_cons, List.mem_append]; exact .inr (.inr (.inl hy)))
    have e3 : omap env' mx = omap env mx := omap_env fun y hy => h y (by simp only [opnds, List.mem_cons, List.mem_append]; exact .inr (.inr (.inr hy)))
    rw [e1, e2, e3, h x (by simp [opnds])]
  · rw [h _ (by simp [opnds])]
  · rw [h _ (by simp [opnds])]
  · rename_i t x i
    rw [h x (by simp [opnds]), h i (by simp [opnds])]
  · rename_i t x i
    rw [h x (by simp [opnds]), h i (by simp [opnds])]
  · rw [h _ (by simp [opnds])]
  · rename_i c
    have e1 : opvs env' c.args.toList = opvs env c.args.toList := opvs_env fun y hy => h y (by simp only [opnds, List.mem_append]; exact .inr hy)
    have e2 : ∀ f, c.callee = .value f → opv env' f = opv env f := fun f hf => h f (by simp [opnds, hf])
    cases hc : c.callee with
    | builtin b => simp only; rw [e1]
    | value f => simp only; rw [e2 f hc, e1]
    | invoke r n => rfl
  · rfl

def Agree (M N : MS) (l : List Nat) : Prop := ∀ k ∈ l, mget N k = mget M k
theorem Agree.l {a b : List Nat} (h : Agree M N (a ++ b)) : Agree M N a := fun k hk => h k (List.mem_append_left _ hk)
theorem Agree.r {a b : List Nat} (h : Agree M N (a ++ b)) : Agree M N b := fun k hk => h k (List.mem_append_right _ hk)
theorem Agree.hd {a : Nat} {b : List Nat} (h : Agree M N (a :: b)) : mget N a = mget M a := h a List.mem_cons_self
theorem Agree.tl {a : Nat} {b : List Nat} (h : Agree M N (a :: b)) : Agree M N b := fun k hk => h k (List.mem_cons_of_mem _ hk)

theorem freeze_loc : ∀ {l : List Nat}, Agree M N l → freeze N l = freeze M l
  | [], _ => rfl
  | k :: ks, h => by simp only [freeze]; rw [h.hd, freeze_loc h.tl]
mutual
theorem ro_loc : ∀ (v v' : AV) (l : List Nat) (c : List (Unit → Prop)), ro M v = some (v', l, c) → Agree M N l → ro N v = some (v', l, c) := by
  intro v v' l c h ha
  unfold ro at h ⊢
  split at h
  · split at h <;> (try (cases h; done)) <;>
    · rename_i hm
      cases h
      simp only [ha.hd, hm]
  · split at h <;> (try (cases h; done))
    rename_i h1
    cases h
    simp only [ros_loc _ _ _ _ h1 ha]
  · split at h <;> (try (cases h; done))
    rename_i h1
    cases h
    simp only [ros_loc _ _ _ _ h1 ha]
  · cases h
  · cases h
  · cases h
  · cases h
  · cases h
  · cases h
    rfl
theorem ros_loc : ∀ (vs vs' : List AV) (l : List Nat) (c : List (Unit → Prop)), ros M vs = some (vs', l, c) → Agree M N l → ros N vs = some (vs', l, c)
  | [], _, _, _, h, _ => by simpa only [ros] using h
  | v :: vs, vs', l, c, h, ha => by
    unfold ros at h ⊢
    split at h <;> (try (cases h; done))
    rename_i h1 h2
    cases h
    rw [ro_loc _ _ _ _ h1 ha.l, ros_loc _ _ _ _ h2 ha.r]
end
theorem load1_loc {ti : TI} {v : AV} {e : Eff} (h : load1 M ti v = some e) (ha : Agree M N e.rd) : load1 N ti v = some e := by
  unfold load1 at h ⊢
  split at h
  · exact h
  · split at h <;> (try (cases h; done))
    rename_i hm
    split at h <;> (try (cases h; done))
    rename_i h1 h2
    cases h
    simp only [ha.hd, hm, h1, h2]
  · split at h <;> (try (cases h; done)) <;>
    · rename_i hm
      split at h <;> (try (cases h; done))
      rename_i h1 h2
      cases h
      simp only [ha.hd, hm, h1, h2]
  · split at h <;> (try (cases h; done))
    rename_i hm h0 h3
    split at h <;> (try (cases h; done))
    rename_i h1 h2
    cases h
    simp only [ha.hd, hm, h1, h2, h0, h3]
  · cases h
theorem store1_loc {ti : TI} {x v : AV} {e : Eff} (h : store1 M ti x v = some e) (ha : Agree M N e.rd) : store1 N ti x v = some e := by
  unfold store1 at h ⊢
  split at h
  · split at h <;> (try (cases h; done))
    rename_i hm
    split at h <;> (try (cases h; done))
    rename_i h1 h2 h3
    cases h
    simp only [ha.hd, hm, h1, h2, h3]
  · split at h <;> (try (cases h; done))
    rename_i hm
    split at h <;> (try (cases h; done))
    rename_i hr
    split at h <;> (try (cases h; done))
    rename_i h1 h2 h3 h4
    split at h <;> (try (cases h; done))
    · rename_i g1 g2 g3
      cases h
      simp only [ha.hd, hm, ros_loc _ _ _ _ hr ha.tl, h1, h2, h3, h4, g1, g2, g3, freeze_loc ha.tl]
    · rename_i g3 g4
      cases h
      simp only [ha.hd, hm, ros_loc _ _ _ _ hr ha.tl, h1, h2, h3, h4, g3, freeze_loc ha.tl]
  · cases h
theorem elems_loc {v : AV} {sh : List Sh} {xs : Unit → List (List D)} {l : List Nat} {c : List (Unit → Prop)} (h : elems M v = some (sh, xs, l, c)) (ha : Agree M N l) : elems N v = some (sh, xs, l, c) := by
  unfold elems at h ⊢
  split at h
  · exact h
  · split at h <;> (try (cases h; done)) <;>
    · rename_i hm
      cases h
      simp only [ha.hd, hm]
  · cases h
theorem rowSz_loc {n : Nat} (h : mget N n = mget M n) : rowSz N n = rowSz M n := by unfold rowSz; rw [h]
theorem appendAv_loc {key eb : Nat} {esh : List Sh} {s x : AV} {e : Eff} (h : appendAv M key esh eb s x = some e) (ha : Agree M N e.rd) : appendAv N key esh eb s x = some e := by
  unfold appendAv at h ⊢
  split at h
  · exact h
  · rename_i h1 h2
    split at h <;> (try (cases h; done))
    rename_i hel
    split at h <;> (try (cases h; done))
    · rename_i g1
      cases h
      simp only [elems_loc hel ha, g1]
    · rename_i g1
      split at h <;> (try (cases h; done))
      rename_i hm hn
      split at h <;> (try (cases h; done))
      rename_i g2
      cases h
      simp only [elems_loc hel ha.tl, g1, ha.hd, hm, hn, g2]
  · cases h
theorem buildDp_loc {key : Nat} {esh : List Sh} {cs : List AV} {e : Eff} (h : buildDp M key esh cs = some e) (ha : Agree M N e.rd) : buildDp N key esh cs = some e := by
  unfold buildDp at h ⊢
  split at h <;> (try (cases h; done))
  rename_i h1
  split at h <;> (try (cases h; done))
  rename_i h2
  split at h <;> (try (cases h; done))
  rename_i h3
  split at h <;> (try (cases h; done))
  rename_i h4 h5 h6 h7 h8
  cases h
  simp only [h1, h2, ha.hd, h3, h4, h5, h6, h7, h8]
theorem isDp_loc {n : Nat} {lo len : Unit → Nat} (h : mget N n = mget M n) : isDp N (.ms n lo len) = isDp M (.ms n lo len) := by simp only [isDp, h]
theorem isDp_elems {x : AV} {sh : List Sh} {xs : Unit → List (List D)} {l : List Nat} {c : List (Unit → Prop)} (h : elems M x = some (sh, xs, l, c)) (ha : Agree M N l) : isDp N x = isDp M x := by
  unfold elems at h
  split at h
  · rfl
  · split at h <;> (try (cases h; done)) <;>
    · cases h
      exact isDp_loc ha.hd
  · cases h
theorem isDp_append {key eb : Nat} {esh : List Sh} {s x : AV} {e : Eff} (h : appendAv M key esh eb s x = some e) (ha : Agree M N e.rd) : isDp N x = isDp M x := by
  unfold appendAv at h
  split at h
  · rfl
  · split at h <;> (try (cases h; done))
    rename_i hel
    split at h <;> (try (cases h; done))
    · cases h
      exact isDp_elems hel ha
    · split at h <;> (try (cases h; done))
      split at h <;> (try (cases h; done))
      cases h
      exact isDp_elems hel ha.tl
  · cases h
theorem appendDp_loc {key eb : Nat} {esh : List Sh} {s x : AV} {e : Eff} (h : appendDp M key esh eb s x = some e) (ha : Agree M N e.rd) : appendDp N key esh eb s x = some e ∧ isDp N x = isDp M x := by
  unfold appendDp at h ⊢
  split at h <;> (try (cases h; done))
  rename_i n' lo' len' h1
  split at h <;> (try (cases h; done))
  rename_i h2
  split at h <;> (try (cases h; done))
  · rename_i h3
    cases h
    exact ⟨by simp only [h1, ha.hd, h2, h3], isDp_loc ha.hd⟩
  · rename_i h3
    split at h <;> (try (cases h; done))
    rename_i h4 h5
    split at h <;> (try (cases h; done))
    rename_i h6 h7
    cases h
    exact ⟨by simp only [h1, ha.tl.hd, ha.hd, h2, h3, h4, h5, h6, h7], isDp_loc ha.tl.hd⟩
theorem appendZ_loc {key eb : Nat} {esh : List Sh} {ds : List (Unit → D)} {s : AV} {n : Unit → Int} {e : Eff} (h : appendZ M key esh eb ds s n = some e) (ha : Agree M N e.rd) : appendZ N key esh eb ds s n = some e := by
  unfold appendZ at h ⊢
  split at h <;> (try (cases h; done))
  rename_i h1
  split at h <;> (try (cases h; done))
  rename_i hm
  split at h <;> (try (cases h; done))
  rename_i g2
  cases h
  simp only [h1, ha.hd, hm, g2]
theorem sliceAv_loc {td : TD} {x : AV} {lo hi mx : Option AV} {e : Eff} (h : sliceAv M td x lo hi mx = some e) (ha : Agree M N e.rd) : sliceAv N td x lo hi mx = some e := by
  unfold sliceAv at h ⊢
  split at h
  · cases h
  · rename_i hl
    split at h
    · split at h
      · cases h
      · rename_i hh
        split at h <;> (try (cases h; done))
        rename_i h1 h2
        cases h
        simp only [hl, hh, h1, h2]
    · split at h
      · cases h
      · rename_i hh
        split at h <;> (try (cases h; done))
        rename_i h1 h2
        split at h <;> (try (cases h; done))
        rename_i h3
        cases h
        simp only [hl, hh, h1, rowSz_loc ha.hd, h2, h3]
    · split at h <;> (try (cases h; done))
      rename_i hh
      cases h
      simp only [hl, hh]
    · cases h
theorem indexAddrAv_loc {td : TD} {x i : AV} {e : Eff} (h : indexAddrAv M td x i = some e) (ha : Agree M N e.rd) : indexAddrAv N td x i = some e := by
  unfold indexAddrAv at h ⊢
  split at h
  · exact h
  · split at h <;> (try (cases h; done))
    rename_i h1
    split at h <;> (try (cases h; done))
    rename_i h2
    cases h
    simp only [rowSz_loc ha.hd, h1, h2]
  · exact h
  · cases h
theorem convAv_loc {key src dst : Nat} {x : AV} {e : Eff} (h : convAv M key T src dst x = some e) (ha : Agree M N e.rd) : convAv N key T src dst x = some e := by
  unfold convAv at h ⊢
  split at h <;> (try (cases h; done))
  split at h
  · exact h
  · exact h
  · exact h
  · exact h
  · split at h <;> (try (cases h; done))
    rename_i h1
    split at h <;> (try (cases h; done))
    rename_i h2 h3
    cases h
    simp only [h1, h2, elems_loc h3 ha]
  · split at h <;> (try (cases h; done))
    rename_i h1 h2 h3
    cases h
    simp only [h1, h2, h3, ha.hd]
  · cases h
theorem builtinAv_loc {key : Nat} {b : Builtin} {ats : List Nat} {args : List AV} {e : Eff} (h : builtinAv M key T b ats args = some e) (ha : Agree M N e.rd) : builtinAv N key T b ats args = some e := by
  unfold builtinAv at h ⊢
  split at h
  · exact h
  · split at h <;> (try (cases h; done))
    split at h <;> (try (cases h; done))
    rename_i h1
    split at h <;> (try (cases h; done))
    rename_i h2
    split at h
    · rename_i h3
      split at h
      · rename_i h4
        obtain ⟨g1, g2⟩ := appendDp_loc h ha
        simp only [h1, h2, h3, g2, h4, g1]
      · rename_i h4
        simp only [h1, h2, h3, isDp_append h ha, h4, appendAv_loc h ha]
    · rename_i h3
      split at h <;> (try (cases h; done))
      rename_i h4 h5
      split at h <;> (try (cases h; done))
      rename_i h6
      simp only [h1, h2, h3, h4, h5, h6, appendZ_loc h ha]
  · exact h
  · split at h <;> (try (cases h; done))
    rename_i h1 h2
    split at h <;> (try (cases h; done))
    rename_i h3 h4
    split at h <;> (try (cases h; done))
    split at h <;> (try (cases h; done))
    rename_i h5
    split at h <;> (try (cases h; done))
    rename_i h6
    split at h <;> (try (cases h; done))
    rename_i h7
    cases h
    simp only [ha.hd, h1, elems_loc h2 ha.tl, h3, h4, h5, h6, h7]
  · cases h
theorem modeArgs_loc : ∀ {ms : List Mode} {vs vs' : List AV} {l : List Nat} {c : List (Unit → Prop)}, modeArgs M ms vs = some (vs', l, c) → Agree M N l → modeArgs N ms vs = some (vs', l, c)
  | [], [], _, _, _, h, _ => by simpa only [modeArgs] using h
  | [], _ :: _, _, _, _, h, _ => by simp [modeArgs] at h
  | .ro :: _, [], _, _, _, h, _ => by simp [modeArgs] at h
  | .mut :: _, [], _, _, _, h, _ => by simp [modeArgs] at h
  | .ro :: ms, v :: vs, _, _, _, h, ha => by
    unfold modeArgs at h ⊢
    split at h <;> (try (cases h; done))
    rename_i h1 h2
    cases h
    rw [ro_loc _ _ _ _ h1 ha.l, modeArgs_loc h2 ha.r]
  | .mut :: ms, v :: vs, _, _, _, h, ha => by
    unfold modeArgs at h ⊢
    split at h <;> (try (cases h; done))
    rename_i h2
    cases h
    rw [modeArgs_loc h2 ha]
theorem keysOf_sub : (∀ (v : AV) (ks : List Nat), ∀ k ∈ ks, k ∈ keysOf v ks) ∧ ∀ (vs : List AV) (ks : List Nat), ∀ k ∈ ks, k ∈ keysOfs vs ks := by
  have one : ∀ (n : Nat) (ks : List Nat), ∀ k ∈ ks, k ∈ (match nmem ks n with | true => ks | false => ks ++ [n]) := by
    intro n ks k hk
    split
    · exact hk
    · exact List.mem_append_left _ hk
  refine ⟨fun v => ?_, fun vs => ?_⟩
  · exact AV.rec (motive_1 := fun v => ∀ (ks : List Nat), ∀ k ∈ ks, k ∈ keysOf v ks) (motive_2 := fun vs => ∀ (ks : List Nat), ∀ k ∈ ks, k ∈ keysOfs vs ks)
      (fun _ _ h => h) (fun _ _ h => h) (fun _ _ _ _ h => h) (fun _ _ _ h => h) (fun _ _ _ h => h) (fun _ _ h => h) (fun _ _ h => h) (fun _ _ h => h)
      (fun _ _ _ _ _ h => h) (fun _ ih ks k h => ih ks k h) (fun n _ _ ks k h => one n ks k h) (fun n _ ks k h => one n ks k h) (fun n _ _ ks k h => one n ks k h) (fun n _ _ _ ks k h => one n ks k h)
      (fun _ ih ks k h => ih ks k h) (fun _ ih ks k h => ih ks k h) (fun _ _ ih ks k h => ih ks k h) (fun _ _ _ h => h) (fun _ _ h => h) (fun v vs i1 i2 ks k h => i2 _ k (i1 ks k h)) v
  · exact AV.rec_1 (motive_1 := fun v => ∀ (ks : List Nat), ∀ k ∈ ks, k ∈ keysOf v ks) (motive_2 := fun vs => ∀ (ks : List Nat), ∀ k ∈ ks, k ∈ keysOfs vs ks)
      (fun _ _ h => h) (fun _ _ h => h) (fun _ _ _ _ h => h) (fun _ _ _ h => h) (fun _ _ _ h => h) (fun _ _ h => h) (fun _ _ h => h) (fun _ _ h => h)
      (fun _ _ _ _ _ h => h) (fun _ ih ks k h => ih ks k h) (fun n _ _ ks k h => one n ks k h) (fun n _ ks k h => one n ks k h) (fun n _ _ ks k h => one n ks k h) (fun n _ _ _ ks k h => one n ks k h)
      (fun _ ih ks k h => ih ks k h) (fun _ ih ks k h => ih ks k h) (fun _ _ ih ks k h => ih ks k h) (fun _ _ _ h => h) (fun _ _ h => h) (fun v vs i1 i2 ks k h => i2 _ k (i1 ks k h)) vs
theorem reach_sub : ∀ (f i : Nat) (ks : List Nat), ∀ k ∈ ks, k ∈ reach M f i ks
  | 0, _, _, k, h => h
  | f + 1, i, ks, k, h => by
    unfold reach
    split
    · exact h
    · split
      · exact reach_sub f (i + 1) _ k (keysOf_sub.2 _ _ k h)
      · exact reach_sub f (i + 1) _ k h
theorem reach_loc : ∀ (f i : Nat) (ks : List Nat), Agree M N (reach M f i ks) → reach N f i ks = reach M f i ks
  | 0, _, _, _ => rfl
  | f + 1, i, ks, h => by
    unfold reach at h ⊢
    cases hk : ks[i]? with
    | none => rfl
    | some k =>
      rw [hk] at h
      simp only at h ⊢
      have hmem : k ∈ ks := List.mem_of_getElem? hk
      have hm : mget N k = mget M k := by
        refine h k ?_
        split
        · exact reach_sub f (i + 1) _ k (keysOf_sub.2 _ _ k hmem)
        · exact reach_sub f (i + 1) _ k hmem
      rw [hm]
      split at h
      · exact reach_loc f (i + 1) _ h
      · exact reach_loc f (i + 1) _ h
theorem subM_loc {ks : List Nat} : ∀ (l : List Nat) (i : Nat), Agree M N l → subM N ks l i = subM M ks l i
  | [], _, _ => rfl
  | k :: l, i, h => by
    unfold subM
    rw [h.hd, subM_loc l (i + 1) h.tl]
theorem callAv_loc {key : Nat} {C : Contract} {args : List AV} {e : Eff} (h : callAv M key C args = some e) (ha : Agree M N e.rd) : callAv N key C args = some e := by
  unfold callAv at h ⊢
  split at h
  · cases h
  · rename_i args' lent vc0 h1
    simp only at h
    split at h <;> (try (cases h; done))
    rename_i cargs cM h2 h3 h4 h5
    split at h
    · cases h
    · rename_i r hr
      split at h <;> (try (cases h; done))
      rename_i h6 h7
      cases h
      have hk := reach_loc 40 0 _ ha.r
      simp only [modeArgs_loc h1 ha.l, hk, h2, subM_loc _ _ ha.r, h3, h4, h5, hr, h6, h7, freeze_loc ha.l]
theorem aop_loc {key : Nat} {o : Op} {e : Eff} (h : aop T G env res M key o = some e) (ha : Agree M N e.rd) : aop T G env res N key o = some e := by
  unfold aop at h ⊢
  split at h
  · exact h
  · exact h
  · exact h
  · exact h
  · exact h
  · exact h
  · split at h <;> (try (cases h; done))
    rename_i h1
    split at h <;> (try (cases h; done))
    rename_i h2
    split at h <;> (try (cases h; done))
    rename_i h3
    split at h <;> (try (cases h; done))
    rename_i h4
    split at h
    · rename_i h5
      split at h <;> (try (cases h; done))
      rename_i h6 h7 h8
      simp only [h1, h2, h3, h4, h5, h6, h7, h8, buildDp_loc h ha]
    rename_i h9
    split at h <;> (try (cases h; done))
    rename_i h5
    split at h <;> (try (cases h; done))
    rename_i h6
    split at h <;> (try (cases h; done))
    rename_i h7 h8
    cases h
    simp only [h1, h2, h3, h4, h9, ros_loc _ _ _ _ h5 ha, h6, h7, h8, freeze_loc ha]
  · split at h <;> (try (cases h; done))
    rename_i h1
    simp only [h1, load1_loc h ha]
  · split at h <;> (try (cases h; done))
    rename_i h1
    simp only [h1, store1_loc h ha]
  · exact h
  · exact h
  · exact h
  · exact convAv_loc h ha
  · exact h
  · exact h
  · split at h <;> (try (cases h; done))
    rename_i h1
    split at h <;> (try (cases h; done))
    rename_i h2
    exact sliceAv_loc h ha
  · exact h
  · exact h
  · split at h <;> (try (cases h; done))
    rename_i h1
    simp only [h1, indexAddrAv_loc h ha]
  · exact h
  · exact h
  · split at h
    · rename_i hc
      simp only [hc, builtinAv_loc h ha]
    · rename_i hc
      split at h <;> (try (cases h; done))
      rename_i h1
      split at h <;> (try (cases h; done))
      rename_i h2
      simp only [hc, h1, h2, callAv_loc h ha]
    · cases h
  · cases h
end
end Go.Am
/- One operation that does one of several things. -/
namespace Go.Am
set_option linter.all false
set_option linter.deprecated false
section
variable {P : Program} {o : Oper} {a : Act} {w w' : World} {I I' : Nat → Prop} {σ σ' τ : Sig} {M : MS} {key : Nat} {env : List AV} {T : TT} {G : Ctx} {res : List (Nat × Bool)}
theorem run_nil_eql {t e : TypeId} (hu : P.underlying t = some (.slice e)) (ad : Option Addr) (l c : Nat) (x y : Operand) :
    (do eqGuard .eql t x y (.slice ad l c) (.slice none 0 0); binOp .eql t (.slice ad l c) (.slice none 0 0) : Sem Value).run P w = .ok (.bool (ad.isNone == true)) w := by
  rw [eqGuard_at_slice, pure_bind, binOp_eql_run t rfl]
  have e : Op.maxDepth = Op.maxDepth - 1 + 1 := by decide
  rw [Op.equal, e]
  simp only [Op.equalIn, Sem.run_bind, run_under hu, Result.andThen_ok]
  cases ad <;> rfl
theorem run_nil_neq {t e : TypeId} (hu : P.underlying t = some (.slice e)) (ad : Option Addr) (l c : Nat) (x y : Operand) :
    (do eqGuard .neq t x y (.slice ad l c) (.slice none 0 0); binOp .neq t (.slice ad l c) (.slice none 0 0) : Sem Value).run P w = .ok (.bool (ad.isNone == false)) w := by
  rw [eqGuard_at_slice, pure_bind, binOp_neq_run t rfl]
  have e : Op.maxDepth = Op.maxDepth - 1 + 1 := by decide
  rw [Op.equal, e]
  simp only [Op.equalIn, Sem.run_bind, run_under hu, Result.andThen_ok]
  cases ad <;> rfl
theorem nilN_ok (hT : ∀ t i, T t = some i → TIok P t i) (hok : Ok w I σ M) {t : Nat} {ti : TI} (ht : tget T t = some ti) {b : Bool} {p q : AV} {n : NEff} (h : nilN M b ti.td p q = some n) {u v : Value} (hp : VR w I σ p u) (hq : VR w I σ q v)
    (run : ∀ {e} (_ : P.underlying t = some (.slice e)) (ad : Option Addr) (l c : Nat), ∃ s : Sem Value, (execOp a.eval o).run P w = ((s >>= fun v => Pure.pure (Next.value v)) : Sem Next).run P w ∧ (u = .slice ad l c → v = .slice none 0 0 → s.run P w = .ok (.bool (ad.isNone == b)) w)) :
    Does P o a w fun v w' => ∃ d, n.ok d ∧ ∀ e, n.eff d = some e → Post w I σ M key e.val (mapply M e.upd) v w' := by
  obtain ⟨ds, hu, htd, _⟩ := under_of hT ht
  have sl : ∀ {el sz eb : Nat} {esh : List Sh}, ti.td = .slice el sz eb esh → P.underlying t = some (.slice el) := fun h => by
    rw [h] at htd
    obtain ⟨rfl, _⟩ := sz_of_slice htd
    exact hu
  have fin : ∀ (ad : Option Addr) (l c : Nat) {el sz eb : Nat} {esh : List Sh}, ti.td = .slice el sz eb esh → u = .slice ad l c → v = .slice none 0 0 → (∃ d, n.ok d ∧ ∀ e, n.eff d = some e → e.upd = [] ∧ VR w I σ e.val (.bool (ad.isNone == b))) →
      Does P o a w fun v w' => ∃ d, n.ok d ∧ ∀ e, n.eff d = some e → Post w I σ M key e.val (mapply M e.upd) v w' := by
    intro ad l c el sz eb esh htd' e1 e2 ⟨d, hd, hd2⟩
    obtain ⟨s, h1, h2⟩ := run (sl htd') ad l c
    refine Does.made (e := ⟨[], .un, [], []⟩) h1 (h2 e1 e2) ⟨d, hd, fun e he => ?_⟩
    obtain ⟨g1, g2⟩ := hd2 e he
    rw [g1]
    exact .same hok g2
  unfold nilN at h
  split at h <;> (try (cases h; done))
  · rename_i e xs htd'
    simp only [Option.some.injEq] at h
    subst h
    simp only [VR] at hp hq
    have h1 := hp.1
    simp only [Dat, D.toList] at h1
    obtain ⟨ad, l, c, rfl, h2, h3, h4, h5, _⟩ := h1
    refine fin ad l c htd' rfl hq ⟨.bool ad.isNone, fun hn => ?_, fun e he => ?_⟩
    · have hn : ad.isNone = true := hn
      have : ad = none := by simpa using hn
      have := h5 this
      exact List.eq_nil_of_length_eq_zero (by omega)
    · simp only [Option.some.injEq] at he
      subst he
      exact ⟨rfl, by simp only [VR, D.toBool]⟩
  · rename_i k lo len htd'
    simp only [VR] at hp hq
    have key2 : ∀ nn e xs, (mget M k = some (.row nn e xs) ∨ mget M k = some (.imm nn e xs)) → ∃ ad l c, u = .slice ad l c ∧ (ad.isNone = true → len () = 0) ∧ (nn = true → ad.isNone = false) := by
      intro nn e xs hm
      unfold MsR at hp
      split at hp
      · exact hp.elim
      · rename_i hs
        obtain ⟨rfl, _, h2⟩ := hp
        refine ⟨none, 0, 0, rfl, fun _ => h2, fun hn => ?_⟩
        exfalso
        subst hn
        rcases hm with hm | hm
        · obtain ⟨p, hp, ho⟩ := hok.obj k _ hm
          rw [hs] at hp; cases hp
          exact Bool.noConfusion ho.1
        · obtain ⟨p, hp, ho⟩ := hok.obj k _ hm
          rw [hs] at hp; cases hp
          exact Bool.noConfusion ho.1
      · obtain ⟨off, cap, rfl, _⟩ := hp
        exact ⟨_, _, _, rfl, by simp, by simp⟩
    split at h <;> (try (cases h; done)) <;> rename_i hm <;> simp only [Option.some.injEq] at h <;> subst h
    · obtain ⟨ad, l, c, hu', g1, g2⟩ := key2 _ _ _ (.inl hm)
      exact fin ad l c htd' hu' hq ⟨.bool ad.isNone, g2 rfl, fun e he => by simp only [Option.some.injEq] at he; subst he; exact ⟨rfl, by simp only [VR, D.toBool]⟩⟩
    · obtain ⟨ad, l, c, hu', g1, g2⟩ := key2 _ _ _ (.inr hm)
      exact fin ad l c htd' hu' hq ⟨.bool ad.isNone, g2 rfl, fun e he => by simp only [Option.some.injEq] at he; subst he; exact ⟨rfl, by simp only [VR, D.toBool]⟩⟩
    · obtain ⟨ad, l, c, hu', g1, g2⟩ := key2 _ _ _ (.inl hm)
      exact fin ad l c htd' hu' hq ⟨.bool ad.isNone, g1, fun e he => by simp only [Option.some.injEq] at he; subst he; exact ⟨rfl, by simp only [VR, D.toBool]⟩⟩
    · obtain ⟨ad, l, c, hu', g1, g2⟩ := key2 _ _ _ (.inr hm)
      exact fin ad l c htd' hu' hq ⟨.bool ad.isNone, g1, fun e he => by simp only [Option.some.injEq] at he; subst he; exact ⟨rfl, by simp only [VR, D.toBool]⟩⟩
theorem nop_ok (hT : ∀ t i, T t = some i → TIok P t i) (hG : ∀ f C, G f = some C → CSound P f C) (hok : Ok w I σ M) (henv : EnvR w I σ env a.tmps)
    (hfree : ∀ k, key ≤ k → k < key + 8 → σ k = none) {n : NEff} (h : nop T G env M key o.op = some n) (hvc : ∀ p ∈ n.pre, p ()) : Does P o a w fun v w' => ∃ d, n.ok d ∧ ∀ e, n.eff d = some e → Post w I σ M key e.val (mapply M e.upd) v w' := by
  unfold nop at h
  split at h <;> (try (cases h; done)) <;> rename_i hop
  · rename_i t x y t'
    split at h <;> (try (cases h; done))
    rename_i ti ht
    refine nilN_ok hT hok ht h (opv_ok henv x) (opv_ok henv y) fun hu ad l c => ⟨(do eqGuard .eql t x y (a.eval x) (a.eval y); binOp .eql t (a.eval x) (a.eval y) : Sem Value), by simp only [execOp, hop], fun e1 e2 => ?_⟩
    rw [e1, e2]
    exact run_nil_eql hu ad l c x y
  · rename_i t x y t'
    split at h <;> (try (cases h; done))
    rename_i ti ht
    refine nilN_ok hT hok ht h (opv_ok henv x) (opv_ok henv y) fun hu ad l c => ⟨(do eqGuard .neq t x y (a.eval x) (a.eval y); binOp .neq t (a.eval x) (a.eval y) : Sem Value), by simp only [execOp, hop], fun e1 e2 => ?_⟩
    rw [e1, e2]
    exact run_nil_neq hu ad l c x y
  · rename_i c
    have hargs := opvs_ok henv c.args.toList
    split at h <;> (try (cases h; done))
    rename_i f hcal
    split at h <;> (try (cases h; done))
    rename_i g caps hf
    split at h <;> (try (cases h; done))
    rename_i C hC
    have hfv := opv_ok henv f
    rw [hf] at hfv
    simp only [VR] at hfv
    obtain ⟨us, hus, hfv⟩ := hfv
    rw [lapp_eq] at h
    have := callN_ok hok hfree (hG g C hC) h hvc (hargs.append hfv)
    intro K Q hK
    unfold Oper.wp
    have := this o a K Q hK
    rw [show (execOp a.eval o).run P w = (callFunc g (c.args.toList.map a.eval ++ us.toList).toArray).run P w from ?_]
    · exact this
    · simp only [execOp, hop, resolve, hcal, hus, Deferred.ofValue, pure_bind, invoke]
      congr 2
      apply Array.ext'
      simp
end
end Go.Am
/- Regions in the order of the text. -/
namespace Go.Am
set_option linter.all false
set_option linter.deprecated false
section
variable {ds : List Deferred} {P : Program} {o : Oper} {a : Act} {w w' w0 : World} {I I' I0 : Nat → Prop} {σ σ' τ σ0 : Sig} {M M' M0 : MS} {key nx : Nat} {env : List AV} {T : TT} {G : Ctx} {res : List (Nat × Bool)}

/-- the machine stands where the symbolic state says -/
structure St (ds : List Deferred) (w0 : World) (I0 : Nat → Prop) (σ0 : Sig) (M0 : MS) (env : List AV) (M : MS) (nx : Nat) (a : Act) (w : World) (I : Nat → Prop) (σ : Sig) : Prop where
  envr : EnvR w I σ env a.tmps
  len : env.length ≤ a.tmps.size
  ok : Ok w I σ M
  free : ∀ k, nx ≤ k → σ k = none
  ext : Ext w0 I0 σ0 M0 w I σ M
  def0 : a.defers = ds
theorem Ext.keep (hok : Ok w I σ M) (h : Ext w I σ M w' I' σ' M') : Keep w I σ w' I' σ' :=
  ⟨fun b hb => h.blk b (hok.lt b hb) fun ho => hok.sep b ho hb, h.mono, h.sig⟩
theorem lset?_get (env : List AV) (d : Option Nat) (v : AV) (t : Nat) : lget (lset? env d v) t = if d = some t ∧ t < env.length then v else lget env t := by
  cases d with
  | none => rw [if_neg (by simp)]; rfl
  | some d =>
    simp only [lset?, lset_eq, lget_eq, List.getD, Option.some.injEq]
    by_cases h : d = t
    · subst h
      by_cases hl : d < env.length
      · rw [if_pos ⟨rfl, hl⟩]; simp [hl]
      · rw [if_neg (by omega)]; simp [hl]
    · rw [if_neg (fun q => h q.1), List.getElem?_set_ne h]
theorem put_get (a : Act) (d : Option Nat) (v : Value) (t : Nat) : (a.put d v).tmps.getD t undef = if d = some t ∧ t < a.tmps.size then v else a.tmps.getD t undef := by
  cases d with
  | none => rw [if_neg (by simp)]; rfl
  | some d =>
    simp only [Act.put, Option.some.injEq]
    simp only [Array.getD_eq_getD_getElem?]
    by_cases h : d = t
    · subst h
      by_cases hl : d < a.tmps.size
      · rw [if_pos ⟨rfl, hl⟩, Array.getElem?_setIfInBounds_self_of_lt hl]; rfl
      · rw [if_neg (by omega), Array.setIfInBounds_eq_of_size_le (by omega)]
    · rw [if_neg (fun q => h q.1), Array.getElem?_setIfInBounds_ne h]
theorem EnvR.put (h : EnvR w I σ env a.tmps) (hl : env.length ≤ a.tmps.size) {d : Option Nat} {x : AV} {v : Value} (hv : VR w I σ x v) : EnvR w I σ (lset? env d x) (a.put d v).tmps := by
  intro t
  rw [lset?_get, put_get]
  by_cases h1 : d = some t ∧ t < env.length
  · rw [if_pos h1, if_pos ⟨h1.1, by omega⟩]; exact hv
  · rw [if_neg h1]
    by_cases h2 : d = some t ∧ t < a.tmps.size
    · have : lget env t = .un := by
        have : ¬ t < env.length := fun h => h1 ⟨h2.1, h⟩
        rw [lget_eq, List.getD, List.getElem?_eq_none (by omega)]
        rfl
      rw [this]
      simp only [VR]
    · rw [if_neg h2]; exact h t
theorem lset?_length (env : List AV) (d : Option Nat) (v : AV) : (lset? env d v).length = env.length := by
  cases d with
  | none => rfl
  | some d => exact lset_length _ _ _
theorem put_size (a : Act) (d : Option Nat) (v : Value) : (a.put d v).tmps.size = a.tmps.size := by
  cases d with
  | none => rfl
  | some d => simp [Act.put]
theorem put_defers (a : Act) (d : Option Nat) (v : Value) : (a.put d v).defers = a.defers := by cases d <;> rfl
def ResOk (res : List (Nat × Bool)) (tmps : Array Value) : Prop := ∀ s b, rget res s = some b → tmps.getD s undef = .bool b
theorem rget_rdel (res : List (Nat × Bool)) (d : Option Nat) (s : Nat) : rget (rdel res d) s = if d = some s then none else rget res s := by
  cases d with
  | none => rw [if_neg (by simp)]; cases res <;> rfl
  | some d =>
    simp only [Option.some.injEq]
    induction res with
    | nil => simp [rdel, rget]
    | cons p res ih =>
      obtain ⟨k, b⟩ := p
      simp only [rdel]
      split
      · rename_i h
        have h := Nat.eq_of_beq_eq_true h
        subst h
        rw [ih]
        by_cases hs : k = s
        · rw [if_pos hs, if_pos hs]
        · rw [if_neg hs, if_neg hs]
          simp only [rget]
          split
          · rename_i h2; exact (hs (Nat.eq_of_beq_eq_true h2)).elim
          · rfl
      · rename_i h
        have h := Nat.ne_of_beq_eq_false h
        simp only [rget]
        split
        · rename_i h2
          have h2 := Nat.eq_of_beq_eq_true h2
          subst h2
          rw [if_neg (fun e => h e.symm)]
        · exact ih
theorem ResOk.put (h : ResOk res a.tmps) (d : Option Nat) (v : Value) : ResOk (rdel res d) (a.put d v).tmps := by
  intro s b hb
  rw [rget_rdel] at hb
  split at hb
  · cases hb
  · rename_i hd
    rw [put_get, if_neg (fun q => hd q.1)]
    exact h s b hb
theorem ResOk.cons (h : ResOk res a.tmps) {d : Nat} {b : Bool} (hd : a.tmps.getD d undef = .bool b) : ResOk ((d, b) :: res) a.tmps := by
  intro s b' hb
  simp only [rget] at hb
  split at hb
  · rename_i h1
    have h1 := Nat.eq_of_beq_eq_true h1
    subst h1
    cases hb
    exact hd
  · exact h s b' hb
/-- what follows one operation -/
theorem St.step {M1 : MS} {val : AV} {v : Value} (h : St ds w0 I0 σ0 M0 env M key a w I σ) (d : Option Nat) (hp : Post w I σ M key val M1 v w') : ∃ I' σ', St ds w0 I0 σ0 M0 (lset? env d val) M1 (key + 8) (a.put d v) w' I' σ' := by
  obtain ⟨I', σ', h1, h2, h3, h4⟩ := hp
  have K := h3.keep h.ok
  refine ⟨I', σ', ⟨EnvR.put (fun t => VR.keep K _ _ (h.envr t)) h.len h1, ?_, h2, fun k hk => ?_, h.ext.trans h3, by rw [put_defers]; exact h.def0⟩⟩
  · rw [lset?_length, put_size]; exact h.len
  · rcases h4 k with h5 | h5
    · rw [h5]; exact h.free k (by omega)
    · omega
theorem St.skip (h : St ds w0 I0 σ0 M0 env M key a w I σ) (d : Option Nat) {n : Nat} (hn : key ≤ n) : St ds w0 I0 σ0 M0 (lset? env d .udf) M n (a.put d undef) w I σ :=
  ⟨EnvR.put h.envr h.len (by simp only [VR]), by rw [lset?_length, put_size]; exact h.len, h.ok, fun k hk => h.free k (by omega), h.ext, by rw [put_defers]; exact h.def0⟩
theorem vcs_iff : ∀ (l : List (Unit → Prop)) (r : Prop), vcs l r → (∀ p ∈ l, p ()) ∧ r
  | [], r, h => ⟨fun _ h => (by cases h), h⟩
  | p :: ps, r, h => by
    obtain ⟨h1, h2⟩ := vcs_iff ps r h.2
    obtain ⟨h0⟩ := h.1
    refine ⟨fun q hq => ?_, h2⟩
    rcases List.mem_cons.1 hq with rfl | hq
    · exact h0
    · exact h1 q hq
theorem yielded_of {ops : List Oper} {tmps : Array Value} {j d : Nat} {b : Bool} (hd : gslot ops j = some d) (h : tmps.getD d undef = .bool b) : yielded ops.toArray tmps j = some b := by
  unfold gslot at hd
  split at hd <;> (try (cases hd; done))
  rename_i o ho
  have h1 : tmps[d]? = some (.bool b) := by
    rw [Array.getD_eq_getD_getElem?] at h
    cases h2 : tmps[d]? with
    | none => rw [h2] at h; cases h
    | some x => rw [h2] at h; simp at h; rw [h]
  simp [yielded, ho, hd, h1]
theorem yielded_undef {ops : List Oper} {tmps : Array Value} {j d : Nat} (hd : gslot ops j = some d) (h : tmps.getD d undef = undef) : yielded ops.toArray tmps j = none := by
  unfold gslot at hd
  split at hd <;> (try (cases hd; done))
  rename_i o ho
  simp only [yielded, List.getElem?_toArray, ho, Option.bind_some, hd]
  rw [Array.getD_eq_getD_getElem?] at h
  cases h2 : tmps[d]? with
  | none => rfl
  | some x => rw [h2] at h; simp at h; subst h; rfl
theorem beqB_iff (b want : Bool) : beqB b want = (b == want) := by cases b <;> cases want <;> rfl

/-- A region, one operation behind the other: what is shown of the symbolic state holds of the machine. 'R': the region's own loop (in the text's order here). -/
theorem wopsN_seq (hT : ∀ t i, T t = some i → TIok P t i) (hG : ∀ f C, G f = some C → CSound P f C) {all : List Oper} {base : Nat} {Q : Exit → Act → World → Prop} {K : RS → Prop} :
    ∀ (os : List Oper) (i : Nat) (r : RS) (a : Act) (w : World) (I : Nat → Prop) (σ : Sig), wopsN T G all base os i r K → St ds w0 I0 σ0 M0 r.env r.M (base + 8 * i) a w I σ → ResOk r.res a.tmps →
      (∀ r' a' w' I' σ', K r' → St ds w0 I0 σ0 M0 r'.env r'.M (base + 8 * (i + os.length)) a' w' I' σ' → Q .normal a' w') → wpList P all.toArray Q os a w
  | [], i, r, a, w, I, σ, h, hs, _, hQ => hQ r a w I σ h (by simpa using hs)
  | o :: os, i, r, a, w, I, σ, h, hs, hres, hQ => by
    have hQ' : ∀ r' a' w' I' σ', K r' → St ds w0 I0 σ0 M0 r'.env r'.M (base + 8 * (i + 1 + os.length)) a' w' I' σ' → Q .normal a' w' := fun r' a' w' I' σ' hk hst => hQ r' a' w' I' σ' hk (by
      rw [show i + (o :: os).length = i + 1 + os.length by simp; omega]; exact hst)
    have run : ∀ (r : RS), St ds w0 I0 σ0 M0 r.env r.M (base + 8 * i) a w I σ → ResOk r.res a.tmps → wopN T G i base o r (fun r => wopsN T G all base os (i + 1) r K) → o.wp P a w (wpList P all.toArray Q os) Q := by
      intro r hs hres hw
      unfold wopN at hw
      split at hw
      · rename_i e he
        obtain ⟨hvc, hw⟩ := vcs_iff _ _ hw
        refine aop_ok hT hG hs.ok hs.envr hres (fun k hk _ => hs.free k hk) he hvc _ _ fun v w' hp => ?_
        obtain ⟨I', σ', hs'⟩ := hs.step o.dst hp
        exact wopsN_seq hT hG os (i + 1) _ _ _ I' σ' hw (by rw [show base + 8 * (i + 1) = base + 8 * i + 8 by omega]; exact hs') (hres.put _ _) hQ'
      · split at hw
        · exact hw.elim
        · rename_i n hn
          obtain ⟨hvc, hw⟩ := vcs_iff _ _ hw
          refine nop_ok hT hG hs.ok hs.envr (fun k hk _ => hs.free k hk) hn hvc _ _ fun v w' hp => ?_
          obtain ⟨d, hd, hp⟩ := hp
          have hw := hw d hd
          split at hw
          · exact hw.elim
          · rename_i e he
            obtain ⟨I', σ', hs'⟩ := hs.step o.dst (hp e he)
            exact wopsN_seq hT hG os (i + 1) _ _ _ I' σ' hw (by rw [show base + 8 * (i + 1) = base + 8 * i + 8 by omega]; exact hs') (hres.put _ _) hQ'
    have skip : ∀ (r : RS), St ds w0 I0 σ0 M0 r.env r.M (base + 8 * i) a w I σ → ResOk r.res a.tmps → wopsN T G all base os (i + 1) (skipR o r) K → wpList P all.toArray Q os (a.put o.dst undef) w := by
      intro r hs hres hw
      exact wopsN_seq hT hG os (i + 1) _ _ _ I σ hw (hs.skip o.dst (by omega)) (hres.put _ _) hQ'
    unfold wopsN at h
    unfold wpList
    split at h
    · rename_i hg
      rw [if_pos (by simp [Region.wanted, hg])]
      exact .inl (run r hs hres h)
    · rename_i j want hg
      split at h
      · exact h.elim
      · rename_i d hd
        have hw : Region.wanted o (yielded all.toArray a.tmps) = (yielded all.toArray a.tmps j == some want) := by simp [Region.wanted, hg]
        rw [hw]
        split at h
        · rename_i b hb
          rw [yielded_of hd (hres d b hb)]
          have e1 : ((some b : Option Bool) == some want) = beqB b want := by rw [beqB_iff]; rfl
          rw [e1]
          split at h
          · rename_i hbb
            rw [if_pos hbb]
            exact .inl (run r hs hres h)
          · rename_i hbb
            rw [if_neg (by simp [hbb])]
            exact skip r hs hres h
        · split at h
          · rename_i f hf
            have hv := hs.envr d
            rw [hf] at hv
            simp only [VR] at hv
            rw [yielded_of hd hv]
            have e1 : ((some (f ()) : Option Bool) == some want) = (f () == want) := rfl
            rw [e1]
            split at h
            · cases hfv : f () with
              | true =>
                rw [if_pos (by simp)]
                exact .inl (run ⟨r.env, r.M, (d, true) :: r.res, []⟩ hs (hres.cons (by rw [hv, hfv])) (h.t hfv))
              | false =>
                rw [if_neg (by simp)]
                exact skip ⟨r.env, r.M, (d, false) :: r.res, []⟩ hs (hres.cons (by rw [hv, hfv])) (h.f hfv)
            · cases hfv : f () with
              | true =>
                rw [if_neg (by simp)]
                exact skip ⟨r.env, r.M, (d, true) :: r.res, []⟩ hs (hres.cons (by rw [hv, hfv])) (h.t hfv)
              | false =>
                rw [if_pos (by simp)]
                exact .inl (run ⟨r.env, r.M, (d, false) :: r.res, []⟩ hs (hres.cons (by rw [hv, hfv])) (h.f hfv))
          · rename_i hf
            have hv := hs.envr d
            rw [hf] at hv
            simp only [VR] at hv
            rw [yielded_undef hd hv, if_neg (by simp)]
            exact skip r hs hres h
          · exact h.elim
end
end Go.Am
