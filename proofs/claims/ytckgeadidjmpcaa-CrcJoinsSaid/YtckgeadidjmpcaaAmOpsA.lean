/- One operation: append. -/
import Derived.Test.YtckgeadidjmpcaaAmOps9
namespace Go.Am
set_option linter.all false
set_option linter.deprecated false
section
variable {P : Program} {o : Oper} {a : Act} {w w' : World} {I I' : Nat → Prop} {σ : Sig} {M : MS} {key : Nat} {env : List AV} {T : TT}

theorem mset_mset (M : MS) (k : Nat) (x y : MObj) : mset (mset M k x) k y = mset M k y := by
  induction M with
  | nil => simp [mset, Nat.beq_refl]
  | cons p M ih =>
    obtain ⟨k', z⟩ := p
    simp only [mset]
    split
    · rename_i h; simp only [mset, h]
    · rename_i h; simp only [mset, h, ih]
theorem Post.after' {σ1 : Sig} {I1 : Nat → Prop} {M1 M2 : MS} (h : Ext w I σ M w I1 σ1 M1) (hs : ∀ k, σ1 k = σ k ∨ (key ≤ k ∧ k < key + 8)) {val : AV} {v : Value} (k : Post w I1 σ1 M1 key val M2 v w') : Post w I σ M key val M2 v w' := by
  obtain ⟨I2, σ2, h1, h2, h3, h4⟩ := k
  refine ⟨I2, σ2, h1, h2, h.trans h3, fun k => ?_⟩
  rcases h4 k with h5 | h5
  · rw [h5]; exact hs k
  · exact .inr h5
/-- fewer objects -/
theorem Ok.sub (hok : Ok w I σ M) {N : MS} (h : ∀ k x, mget N k = some x → mget M k = some x) : Ok w I σ N :=
  ⟨hok.lt, fun k x hk => hok.obj k x (h k x hk), fun b ⟨k, x, p, hk, r⟩ => hok.sep b ⟨k, x, p, h k x hk, r⟩, fun k k' x x' p p' h1 h2 => hok.inj k k' x x' p p' (h k x h1) (h k' x' h2)⟩
theorem Owned.sub {N : MS} (h : ∀ k x, mget N k = some x → mget M k = some x) {b : Nat} (hb : Owned σ N b) : Owned σ M b :=
  let ⟨k, x, p, hk, r⟩ := hb; ⟨k, x, p, h k x hk, r⟩
theorem Post.sub {N : MS} (h : ∀ k x, mget N k = some x → mget M k = some x) {val : AV} {v : Value} {M' : MS} (k : Post w I σ N key val M' v w') : Post w I σ M key val M' v w' := by
  obtain ⟨I2, σ2, h1, h2, h3, h4⟩ := k
  exact ⟨I2, σ2, h1, h2, ⟨h3.os, h3.tape, h3.output, h3.size, fun b hb hn => h3.blk b hb fun ho => hn (ho.sub h), h3.mono, fun b hb => (h3.fresh b hb).imp id fun r => r.imp (·.sub h) id, fun b hb => (h3.own b hb).imp (·.sub h) id, h3.sig⟩, h4⟩
theorem mdel_sub (M : MS) (n : Nat) : ∀ k x, mget (mdel M n) k = some x → mget M k = some x := by
  intro k x h
  rw [mget_mdel] at h
  split at h
  · cases h
  · exact h
/-- an object under another key -/
theorem Ok.rename (hok : Ok w I σ M) {n : Nat} {x : MObj} {q : Option Pl} (hx : mget M n = some x) (hq : σ n = some q) (hfree : σ key = none) :
    Ok w I (σ.upd key q) (mset (mdel M n) key x) ∧ Ext w I σ M w I (σ.upd key q) (mset (mdel M n) key x) := by
  have hne : n ≠ key := by rintro rfl; rw [hfree] at hq; cases hq
  have hsig : ∀ k p, σ k = some p → σ.upd key q k = some p := fun k p h => by
    rw [Sig.upd_other _ _ (by rintro rfl; rw [hfree] at h; cases h)]; exact h
  have K : Keep w I σ w I (σ.upd key q) := ⟨fun _ _ => rfl, fun _ h => h, hsig⟩
  have back : ∀ k y, mget (mset (mdel M n) key x) k = some y → ∃ k', mget M k' = some y ∧ σ.upd key q k = σ k' ∧ ((k = key ∧ k' = n) ∨ (k ≠ key ∧ k' = k ∧ k ≠ n)) := by
    intro k y hk
    rw [mget_mset] at hk
    split at hk
    · rename_i e; subst e
      cases hk
      exact ⟨n, hx, by rw [Sig.upd_same, hq], .inl ⟨rfl, rfl⟩⟩
    · rename_i e
      rw [mget_mdel] at hk
      split at hk
      · cases hk
      · rename_i e2
        exact ⟨k, hk, Sig.upd_other _ _ (fun h => e h.symm), .inr ⟨fun h => e h.symm, rfl, fun h => e2 h.symm⟩⟩
  have hown : ∀ b, Owned (σ.upd key q) (mset (mdel M n) key x) b → Owned σ M b := by
    rintro b ⟨k, y, p, hk, hy, hs, rfl⟩
    obtain ⟨k', h1, h2, _⟩ := back k y hk
    exact ⟨k', y, p, h1, hy, h2 ▸ hs, rfl⟩
  refine ⟨⟨hok.lt, fun k y hk => ?_, fun b hb => hok.sep b (hown b hb), ?_⟩, ⟨rfl, rfl, rfl, Nat.le_refl _, fun _ _ _ => rfl, fun _ h => h, fun _ h => .inl h, fun b hb => .inl (hown b hb), hsig⟩⟩
  · obtain ⟨k', h1, h2, _⟩ := back k y hk
    obtain ⟨p, hp, ho⟩ := hok.obj k' y h1
    exact ⟨p, h2.trans hp, OR.keep K (fun _ _ => rfl) ho⟩
  · intro k k' y y' p p' h1 h2 o1 o2 s1 s2 e
    obtain ⟨j, a1, a2, a3⟩ := back k y h1
    obtain ⟨j', b1, b2, b3⟩ := back k' y' h2
    have := hok.inj j j' y y' p p' a1 b1 o1 o2 (a2 ▸ s1) (b2 ▸ s2) e
    subst this
    rcases a3 with ⟨e1, e2⟩ | ⟨_, e2, e3⟩ <;> rcases b3 with ⟨f1, f2⟩ | ⟨_, f2, f3⟩ <;> omega
theorem Post.nilrow (hok : Ok w I σ M) (hfree : σ key = none) {e : List Sh} {xs : Unit → List (List D)} (hx : xs () = []) (h0 : 0 < e.length) {val : AV} {v : Value} (hv : VR w I (σ.upd key none) val v) :
    Post w I σ M key val (mset M key (.row false e xs)) v w := by
  have hun := hok.unset hfree
  have hsig : ∀ k p, σ k = some p → σ.upd key none k = some p := fun k p h => by
    rw [Sig.upd_other _ _ (by rintro rfl; rw [hfree] at h; cases h)]; exact h
  have K : Keep w I σ w I (σ.upd key none) := ⟨fun _ _ => rfl, fun _ h => h, hsig⟩
  have back : ∀ k y p, mget (mset M key (.row false e xs)) k = some y → σ.upd key none k = some (some p) → mget M k = some y ∧ σ k = some (some p) := by
    intro k y p hk hs
    rw [mget_mset] at hk
    split at hk
    · rename_i e; subst e
      rw [Sig.upd_same] at hs; cases hs
    · rename_i e
      exact ⟨hk, by rwa [Sig.upd_other _ _ (fun h => e h.symm)] at hs⟩
  have hown : ∀ b, Owned (σ.upd key none) (mset M key (.row false e xs)) b → Owned σ M b := by
    rintro b ⟨k, y, p, hk, hy, hs, rfl⟩
    obtain ⟨h1, h2⟩ := back k y p hk hs
    exact ⟨k, y, p, h1, hy, h2, rfl⟩
  refine ⟨I, σ.upd key none, hv, ⟨hok.lt, fun k y hk => ?_, fun b hb => hok.sep b (hown b hb), fun k k' y y' p p' h1 h2 o1 o2 s1 s2 e => ?_⟩,
    ⟨rfl, rfl, rfl, Nat.le_refl _, fun _ _ _ => rfl, fun _ h => h, fun _ h => .inl h, fun b hb => .inl (hown b hb), hsig⟩, fun k => ?_⟩
  · rw [mget_mset] at hk
    split at hk
    · rename_i e; subst e
      cases hk
      exact ⟨none, Sig.upd_same _ _ _, rfl, hx, h0⟩
    · obtain ⟨p, hp, ho⟩ := hok.obj k y hk
      exact ⟨p, hsig k p hp, OR.keep K (fun _ _ => rfl) ho⟩
  · obtain ⟨a1, a2⟩ := back k y p h1 s1
    obtain ⟨b1, b2⟩ := back k' y' p' h2 s2
    exact hok.inj k k' y y' p p' a1 b1 o1 o2 a2 b2 e
  · by_cases h : k = key
    · exact .inr (by omega)
    · exact .inl (Sig.upd_other _ _ h)
/-- a block of a new row -/
theorem row_new {cs0 : Array Value} {t : TypeId} {fz : Nat × Nat} (hm : More w w' (.cells cs0 t fz)) (hI : ∀ b, I b → b < w.heap.size) {e : List Sh} (h0 : 0 < e.length) {xs : List (List D)} {cs : List Value} {cap : Nat} (hr : RowL w I e xs cs) (hsz : cs0.size = cap * e.length) (hpre : ∀ (j : Nat) (c : Value), cs[j]? = some c → cs0[j]? = some c)
    (hl : xs.length ≤ cap) (hcap : cap ≤ maxLen) (hf : unfrozen cs0 fz) : RowR w' I ⟨w.heap.size, cap, e.length⟩ e xs := by
  refine ⟨cs0, t, fz, hm.new, hf, hsz, rfl, h0, hl, hcap, ?_⟩
  exact RowL.row (hr.keep (fun b hb => hm.old (hI b hb)) fun _ h => h) fun j c hc => by
    rw [cell_of_row w' w.heap.size j cs0 t fz hm.new]
    exact hpre j c hc
theorem append_ok (hok : Ok w I σ M) (hfree : σ key = none) (hT : ∀ t i, T t = some i → TIok P t i) {t : Nat} {ti : TI} (ht : tget T t = some ti) {el esz eb : Nat} {esh : List Sh} (htd : ti.td = .slice el esz eb esh) (ty : TypeId) {s x : AV} {e : Eff} (h : appendAv M key esh eb s x = some e)
    (hvc : ∀ p ∈ e.vc, p ()) {u v : Value} (hs : VR w I σ s u) (hx : VR w I σ x v) :
    ∃ r w', (Builtin.append_ #[t, t] ty #[u, v]).run P w = .ok r w' ∧ Post w I σ M key e.val (mapply M e.upd) r w' := by
  obtain ⟨d, hu, hd, _⟩ := under_of hT ht
  rw [htd] at hd
  obtain ⟨rfl, hesh, hes0, inf, z, hinf, hisz, hib, hiz, hzs⟩ := sz_of_slice hd
  unfold appendAv at h
  split at h <;> (try (cases h; done))
  · -- nil onto nil
    simp only [Eff.pure, Option.some.injEq] at h
    subst h
    simp only [VR] at hs hx
    subst hs hx
    refine ⟨.slice none 0 0, w, ?_, .same hok (by simp only [VR])⟩
    simp [Builtin.append_, run_under hu, run_sizeOf_of hinf, Builtin.lenOf, Builtin.firstCells]
  · rename_i x' s' s0 ss heb hnn
    have heb := Nat.le_of_ble_eq_true heb
    split at h <;> (try (cases h; done))
    rename_i e2 ys r2 v2 hel
    split at h <;> (try (cases h; done))
    · -- onto nil
      rename_i hsh
      have hsh := shEqs_ok hsh
      subst hsh
      simp only [Option.some.injEq] at h
      subst h
      have hbig : (ys ()).length ≤ big := hvc (fun _ => (ys ()).length ≤ big) List.mem_cons_self
      obtain ⟨ad, len, cap, cs, rfl, g1, g2, g3, g4, g5⟩ := elems_ok hok hel (fun p hp => hvc p (List.mem_cons_of_mem _ hp)) hx
      simp only [VR] at hs
      subst hs
      simp only [mapply]
      by_cases h0 : len = 0
      · refine ⟨.slice none 0 0, w, ?_, .nilrow hok hfree (List.eq_nil_of_length_eq_zero (by omega)) g3 ?_⟩
        · subst h0
          have hf : (Builtin.firstCells inf.size 0 (.slice ad 0 cap)).run P w = .ok #[] w := by
            cases ad with
            | none => exact run_firstCells_none w _ _ _ _
            | some b => exact run_firstCells_some w inf.size 0 b 0 cap [] (by simp) (by simp)
          simp [Builtin.append_, run_under hu, run_sizeOf_of hinf, Builtin.lenOf, hf]
        · simp only [VR, Sig.upd_same, MsR, true_and]; omega
      · rcases g5 with g5 | ⟨b, off, rfl, g5⟩
        · omega
        · have hb2 : len * inf.bytes ≤ 140737488355328 := by
            rw [hib]
            calc len * eb ≤ 1099511627776 * 128 := Nat.mul_le_mul (by unfold big at hbig; omega) heb
              _ ≤ _ := by decide
          have hrun := run_append_nil (P := P) w t ty el inf z hu hinf hiz ⟨b, off, none⟩ len cap cs (by rw [g4.1, hisz, hesh, g1]) (fun j c hc => by rw [Addr.add_lit]; exact g5 j c hc) (by omega) (by unfold maxLen at g2; omega) (by omega)
          refine ⟨_, _, hrun, ?_⟩
          have hge := grownCap_ge w len 0 el
          have hmore : More w (w.drew.alloc (.cells (cs.toArray ++ Builtin.zeroCells z.cells (grownCap w len 0 el - len)) el)) (.cells (cs.toArray ++ Builtin.zeroCells z.cells (grownCap w len 0 el - len)) el) := ⟨rfl, rfl, rfl, rfl⟩
          refine Post.alloc hok hfree hmore (cap := grownCap w len 0 el) (sz := (s0 :: ss).length) trivial ?_ ?_
          · refine row_new hmore hok.lt g3 g4 ?_ (fun j c hc => ?_) (by omega) (grownCap_le_maxLen w len 0 el g2) (by simp [unfrozen])
            · rw [Array.size_append, size_zeroCells, List.size_toArray, g4.1, hzs, hesh, ← g1, ← Nat.add_mul]
              congr 1; omega
            · rw [Array.getElem?_append_left (by simpa using (List.getElem?_eq_some_iff.1 hc).1)]
              simpa using hc
          · simp only [VR, Sig.upd_same, MsR, g1]
            exact ⟨0, _, rfl, .inr (by simp), by simp, by rw [← g1]; exact hge, by rw [← g1]; exact grownCap_le_maxLen w len 0 el g2⟩
    · -- onto a row of the call's own
      rename_i n lo len hsh
      have hsh := shEqs_ok hsh
      subst hsh
      split at h <;> (try (cases h; done))
      rename_i nn e xs hm hnm
      split at h <;> (try (cases h; done))
      rename_i hsh2
      have hsh2 := shEqs_ok hsh2
      subst hsh2
      simp only [Option.some.injEq] at h
      subst h
      have hlo : lo () = 0 := hvc (fun _ => lo () = 0) List.mem_cons_self
      have hlen : len () ≤ (xs ()).length := hvc (fun _ => len () ≤ (xs ()).length) (List.mem_cons_of_mem _ List.mem_cons_self)
      have hbig : len () + (ys ()).length ≤ big := hvc (fun _ => len () + (ys ()).length ≤ big) (List.mem_cons_of_mem _ (List.mem_cons_of_mem _ List.mem_cons_self))
      obtain ⟨ad, m, c, cs, rfl, g1, g2, g3, g4, g5⟩ := elems_ok hok hel (fun p hp => hvc p (List.mem_cons_of_mem _ (List.mem_cons_of_mem _ (List.mem_cons_of_mem _ hp)))) hx
      obtain ⟨q, hq, hr⟩ := ok_row hok (.inl hm)
      have hb2 : (len () + m) * inf.bytes ≤ 140737488355328 := by
        rw [hib]
        calc (len () + m) * eb ≤ 1099511627776 * 128 := Nat.mul_le_mul (by unfold big at hbig; omega) heb
          _ ≤ _ := by decide
      have hml : len () + m ≤ maxLen := by unfold big at hbig; unfold maxLen; omega
      simp only [mapply]
      have hfirst0 : m = 0 → ∀ w : World, (Builtin.firstCells inf.size m (.slice ad m c)).run P w = .ok #[] w := fun h0 w => by
        subst h0
        cases ad with
        | none => exact run_firstCells_none w _ _ _ _
        | some b => exact run_firstCells_some w inf.size 0 b 0 c [] (by simp) (by simp)
      simp only [VR] at hs
      rw [hq] at hs
      rcases hr with ⟨p, rfl, cs0, ct, fz, hh, r1, r2, r3, r4, r5, r6, r7⟩ | ⟨rfl, e1, _⟩
      · obtain ⟨off, cap, rfl, k1, k2, k3, k4⟩ := hs
        obtain ⟨olds, o1, o2⟩ := RowL.of (w := w) (I := I) (e := s0 :: ss) (b := p.b) (off := 0) (xs ()) fun i hi => by rw [Nat.zero_add, ← r3]; exact r7 i hi
        have o3 := o1.take (len ()) hlen
        have o4 : ((olds.take (len () * (s0 :: ss).length)) ++ cs).length = (len () + m) * (s0 :: ss).length := by
          rw [List.length_append, o3.1, g4.1, List.length_take, Nat.min_eq_left hlen, ← g1, Nat.add_mul]
        have o5 : RowL w I (s0 :: ss) ((xs ()).take (len ()) ++ ys ()) (olds.take (len () * (s0 :: ss).length) ++ cs) := o3.append g4
        have o6 : olds.length = (xs ()).length * (s0 :: ss).length := o1.1
        by_cases hroom : len () + m ≤ cap
        · -- there is room
          obtain ⟨hren, hext⟩ := Ok.rename hok hm hq hfree
          have hoff : m = 0 ∨ off = 0 := by
            rcases k1 with k1 | k1
            · left; omega
            · right; rw [k1, hlo, Nat.zero_mul]
          have hones := g4.ones (by simp)
          have hfit : off + len () * inf.size + 0 + cs.length ≤ cs0.size ∨ m = 0 := by
            rcases hoff with h0 | h0
            · exact .inr h0
            · left
              have hcc : (len () + m) * p.sz ≤ p.cap * p.sz := Nat.mul_le_mul_right _ (by omega)
              rw [Nat.add_mul] at hcc
              rw [r2, h0, g4.1, ← g1, hisz, ← hesh, ← r3]
              omega
          obtain ⟨w', cs', st1, st2, st3, st4⟩ : ∃ w' cs', (storeCells ((⟨p.b, off, none⟩ : Addr).add (len () * inf.size)) cs).run P w = .ok () w' ∧ Turned w w' p.b ∧ w'.heap[p.b]? = some (.cells cs' ct fz) ∧ Splice cs0 (off + len () * inf.size) cs cs' := by
            rw [Addr.add_lit]
            rcases hfit with hfit | h0
            · have := run_storeCells_splice (P := P) p.b (off + len () * inf.size) cs 0 w cs0 ct fz hh r1 hfit hones
              simpa using this
            · have : cs = [] := List.eq_nil_of_length_eq_zero (by rw [g4.1, ← g1, h0]; simp)
              subst this
              exact ⟨w, cs0, rfl, .refl w _, hh, rfl, fun j => by rw [if_neg (by simp)]⟩
          refine ⟨.slice (some ⟨p.b, off, none⟩) (len () + m) cap, w', ?_, ?_⟩
          · have hf : (Builtin.firstCells inf.size m (.slice ad m c)).run P w = .ok cs.toArray w := by
              rcases g5 with g5 | ⟨b, of, rfl, g5⟩
              · rw [hfirst0 g5 w]
                have : cs = [] := List.eq_nil_of_length_eq_zero (by rw [g4.1, ← g1, g5]; simp)
                rw [this]
              · exact run_firstCells_some w inf.size m ⟨b, of, none⟩ m c cs (by rw [g4.1, ← g1, hisz, hesh]) (fun j c hc => by rw [Addr.add_lit]; exact g5 j c hc)
            simp only [Builtin.append_, List.getElem?_toArray, List.getElem?_cons_zero, List.getElem?_cons_succ, Sem.run_bind, run_under hu, Result.andThen_ok, run_sizeOf_of hinf, Sem.run_pure, Builtin.lenOf, Bool.false_eq_true, if_false, Bool.not_false, if_true, hf, if_pos hroom, st1]
          · have ht1 : mget (mset (mdel M n) key (.row nn (s0 :: ss) xs)) key = some (.row nn (s0 :: ss) xs) := by rw [mget_mset, if_pos rfl]
            have := Post.turned (key := key) hren ht1 trivial (Sig.upd_same σ key (some p)) st2 (val := .ms key (fun _ => 0) (fun _ => len () + (ys ()).length)) (v := .slice (some ⟨p.b, off, none⟩) (len () + m) cap) (y := .row nn (s0 :: ss) (fun _ => (xs ()).take (len ()) ++ ys ())) trivial ?_ ?_
            · rw [mset_mset] at this
              exact this.after' hext fun k => by
                by_cases h : k = key
                · exact .inr (by omega)
                · exact .inl (Sig.upd_other _ _ h)
            · refine ⟨cs', ct, fz, st3, st4.unfrozen r1, by rw [st4.1, r2], r3, r4, by rw [List.length_append, List.length_take, Nat.min_eq_left hlen]; omega, r6, ?_⟩
              have hIo : ∀ b, I b → w'.heap[b]? = w.heap[b]? := fun b hb => st2.other b (by rintro rfl; exact hok.sep _ ⟨n, _, p, hm, trivial, hq, rfl⟩ hb)
              rw [r3]
              refine (o5.keep hIo fun _ h => h).row fun j c hc => ?_
              rw [cell_of_row w' p.b j cs' ct fz st3, st4.2 j]
              have hlt := (List.getElem?_eq_some_iff.1 hc).1
              rw [o4] at hlt
              have hl1 : (olds.take (len () * (s0 :: ss).length)).length = len () * (s0 :: ss).length := by rw [o3.1, List.length_take, Nat.min_eq_left hlen]
              rw [hisz, ← hesh]
              by_cases hj : j < len () * (s0 :: ss).length
              · rw [List.getElem?_append_left (by omega), List.getElem?_take, if_pos hj] at hc
                have hold := o2 j c hc
                rw [Nat.zero_add, cell_of_row w p.b j cs0 ct fz hh] at hold
                rcases hoff with h0 | h0
                · have : cs = [] := List.eq_nil_of_length_eq_zero (by rw [g4.1, ← g1, h0]; simp)
                  subst this
                  rw [if_neg (by simp)]
                  exact hold
                · rw [if_neg (by omega)]
                  exact hold
              · rw [List.getElem?_append_right (by omega), hl1] at hc
                have hlc := (List.getElem?_eq_some_iff.1 hc).1
                rcases hoff with h0 | h0
                · exfalso
                  rw [g4.1, ← g1, h0] at hlc
                  simp at hlc
                · rw [h0, Nat.zero_add, if_pos (by omega)]
                  exact hc
            · simp only [VR, Sig.upd_same, MsR]
              refine ⟨off, cap, by rw [← g1], ?_, by omega, by omega, k4⟩
              rcases k1 with k1 | k1
              · exact .inl k1
              · right; rw [k1, hlo]
        · -- it grows
          have hcells : ∀ (j : Nat) (v : Value), (olds.take (len () * (s0 :: ss).length))[j]? = some v → w.cell? ((⟨p.b, off, none⟩ : Addr).add j) = some v := fun j v hv => by
            rw [List.getElem?_take] at hv
            split at hv
            · rename_i hj
              have hl0 : len () ≠ 0 := by rintro h0; rw [h0] at hj; simp at hj
              have hoff : off = 0 := by
                rcases k1 with k1 | k1
                · omega
                · rw [k1, hlo, Nat.zero_mul]
              rw [Addr.add_lit, hoff]
              exact o2 j v hv
            · cases hv
          have hm0 : m ≠ 0 := by rintro rfl; omega
          rcases g5 with g5 | ⟨b, of, rfl, g5⟩
          · exact (hm0 g5).elim
          have hrun := run_append_grow (P := P) w t ty el inf z hu hinf hiz ⟨p.b, off, none⟩ (len ()) cap (olds.take (len () * (s0 :: ss).length)) (by rw [o3.1, List.length_take, Nat.min_eq_left hlen, hisz, hesh]) hcells
            ⟨b, of, none⟩ m c cs (by rw [g4.1, hisz, hesh, g1]) (fun j c hc => by rw [Addr.add_lit]; exact g5 j c hc) (by omega) (by unfold maxLen at hml; omega) (growslice_fits (by omega) hb2)
          refine ⟨_, _, hrun, Post.sub (mdel_sub M n) ?_⟩
          have hge := grownCap_ge w (len () + m) cap el
          have hmore : ∀ x, More w (w.drew.alloc x) x := fun x => ⟨rfl, rfl, rfl, rfl⟩
          refine Post.alloc (hok.sub (mdel_sub M n)) hfree (hmore _) (cap := grownCap w (len () + m) cap el) (sz := (s0 :: ss).length) trivial ?_ ?_
          · refine row_new (hmore _) hok.lt g3 o5 ?_ (fun j c hc => ?_) (by rw [List.length_append, List.length_take, Nat.min_eq_left hlen, ← g1]; exact hge) (grownCap_le_maxLen w _ _ el hml) (by simp [unfrozen])
            · rw [Array.size_append, Array.size_append, size_zeroCells, List.size_toArray, List.size_toArray, ← List.length_append, o4, hzs, hesh, ← Nat.add_mul]
              congr 1; omega
            · rw [Array.getElem?_append_left (by rw [Array.size_append, List.size_toArray, List.size_toArray, ← List.length_append]; exact (List.getElem?_eq_some_iff.1 hc).1)]
              simpa using hc
          · simp only [VR, Sig.upd_same, MsR]
            exact ⟨0, _, by rw [← g1], .inr (by simp), by simp, by rw [← g1]; exact hge, grownCap_le_maxLen w _ _ el hml⟩
      · -- a nil row
        obtain ⟨rfl, _, e3⟩ := hs
        have hl0 : len () = 0 := e3
        by_cases h0 : m = 0
        · refine ⟨.slice none 0 0, w, ?_, Post.sub (mdel_sub M n) ?_⟩
          · have hf := hfirst0 h0 w
            subst h0
            simp [Builtin.append_, run_under hu, run_sizeOf_of hinf, Builtin.lenOf, hf]
          · obtain ⟨nn', rfl⟩ : ∃ x, x = nn := ⟨_, rfl⟩
            obtain ⟨p, hp, ho⟩ := hok.obj n _ hm
            rw [hq] at hp
            cases hp
            have hnn : nn' = false := ho.1
            subst hnn
            refine Post.nilrow (hok.sub (mdel_sub M n)) hfree ?_ g3 ?_
            · show (xs ()).take (len ()) ++ ys () = []
              rw [hl0, List.take_zero, List.nil_append]
              exact List.eq_nil_of_length_eq_zero (by omega)
            · simp only [VR, Sig.upd_same, MsR, true_and]; omega
        · rcases g5 with g5 | ⟨b, off, rfl, g5⟩
          · omega
          · have hrun := run_append_nil (P := P) w t ty el inf z hu hinf hiz ⟨b, off, none⟩ m c cs (by rw [g4.1, hisz, hesh, g1]) (fun j c hc => by rw [Addr.add_lit]; exact g5 j c hc) (by omega) (by unfold maxLen at g2; omega) (by rw [hl0, Nat.zero_add] at hb2; omega)
            refine ⟨_, _, hrun, Post.sub (mdel_sub M n) ?_⟩
            have hge := grownCap_ge w m 0 el
            have hmore : ∀ x, More w (w.drew.alloc x) x := fun x => ⟨rfl, rfl, rfl, rfl⟩
            have e4 : (xs ()).take (len ()) ++ ys () = ys () := by rw [hl0, List.take_zero, List.nil_append]
            refine Post.alloc (hok.sub (mdel_sub M n)) hfree (hmore _) (cap := grownCap w m 0 el) (sz := (s0 :: ss).length) trivial ?_ ?_
            · refine row_new (hmore _) hok.lt g3 (by rw [e4]; exact g4) ?_ (fun j c hc => ?_) (by show ((xs ()).take (len ()) ++ ys ()).length ≤ _; rw [e4]; omega) (grownCap_le_maxLen w m 0 el g2) (by simp [unfrozen])
              · rw [Array.size_append, size_zeroCells, List.size_toArray, g4.1, hzs, hesh, ← g1, ← Nat.add_mul]
                congr 1; omega
              · rw [Array.getElem?_append_left (by simpa using (List.getElem?_eq_some_iff.1 hc).1)]
                simpa using hc
            · simp only [VR, Sig.upd_same, MsR, g1, hl0, Nat.zero_add]
              exact ⟨0, _, rfl, .inr (by simp), by simp, by rw [← g1]; exact hge, by rw [← g1]; exact grownCap_le_maxLen w m 0 el g2⟩
end
end Go.Am
