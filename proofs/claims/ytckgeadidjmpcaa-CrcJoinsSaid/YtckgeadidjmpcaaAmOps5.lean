/- One operation: indices, slices, aggregates. -/
import Derived.Test.YtckgeadidjmpcaaAmOps4
import Derived.Lib.Strings
namespace Go.Am
set_option linter.all false
set_option linter.deprecated false
section
variable {P : Program} {o : Oper} {a : Act} {w : World} {I : Nat → Prop} {σ : Sig} {M : MS} {key : Nat} {env : List AV} {T : TT}

theorem rowSz_ok (hok : Ok w I σ M) {n z : Nat} (h : rowSz M n = some z) : σ n = some none ∨ ∃ p, σ n = some (some p) ∧ p.sz = z ∧ 0 < z := by
  unfold rowSz at h
  split at h <;> (try (cases h; done)) <;> rename_i nn e xs hm <;> simp only [Option.some.injEq] at h <;> subst h <;> obtain ⟨p, hp, ho⟩ := hok.obj n _ hm <;> cases p with
  | none => exact .inl hp
  | some p =>
    first
    | (obtain ⟨_, _, _, _, _, _, h1, h2, _⟩ := ho; exact .inr ⟨p, hp, h1, h2⟩)
    | (obtain ⟨⟨_, _, _, _, _, _, h1, h2, _⟩, _⟩ := ho; exact .inr ⟨p, hp, h1, h2⟩)
theorem sz_of_slice {el sz eb : Nat} {esh : List Sh} {d : TypeDesc} (h : TDok P (.slice el sz eb esh) d) : d = .slice el ∧ esh.length = sz ∧ 0 < sz ∧ ∃ inf z, P.info? el = some inf ∧ inf.size = sz ∧ inf.bytes = eb ∧ inf.zero = some z ∧ z.cells.size = sz := h
theorem indexAddrAv_ok (hok : Ok w I σ M) (hT : ∀ t i, T t = some i → TIok P t i) {t : Nat} {ti : TI} (ht : tget T t = some ti) (x y : AV) (u v : Value) (e : Eff) (h : indexAddrAv M ti.td x y = some e) (hvc : ∀ p ∈ e.vc, p ())
    (hx : VR w I σ x u) (hy : VR w I σ y v) : ∃ r, (Instr.indexAt t u v).run P w = .ok r w ∧ VR w I σ e.val r ∧ e.upd = [] := by
  obtain ⟨d, hu, hd, _⟩ := under_of hT ht
  unfold indexAddrAv at h
  split at h <;> (try (cases h; done)) <;> rename_i htd <;> rw [htd] at hd
  · rename_i el sz eb esh nn e' xs k n
    obtain ⟨rfl, _, _, inf, _, hinf, hsz, _⟩ := sz_of_slice hd
    split at h
    · rename_i he
      have he := Nat.eq_of_beq_eq_true he
      simp only [Eff.chk, Option.some.injEq] at h
      subst h
      obtain ⟨hn0, hn1⟩ : 0 ≤ n () ∧ n () < ((xs ()).length : Int) := hvc (fun _ => 0 ≤ n () ∧ n () < ((xs ()).length : Int)) (List.mem_singleton.2 rfl)
      simp only [VR] at hx hy
      obtain ⟨rfl, _⟩ := hy
      have hx := hx.1
      simp only [Dat, D.toList] at hx
      obtain ⟨a, len, cap, rfl, h2, h3, h4, h5, h6, h7⟩ := hx
      obtain ⟨b, off, rfl, hb, hdc⟩ := h7 (n ()).toNat (by omega)
      refine ⟨.pointer (some ⟨b, off + (n ()).toNat * sz, none⟩), ?_, ?_, rfl⟩
      · simp only [Instr.indexAt, asIntOf, Sem.run_bind, Sem.run_pure, Result.andThen_ok, run_under hu]
        rw [if_pos ⟨hn0, by omega⟩]
        simp [run_sizeOf_of hinf, hsz, Addr.add_lit]
      · simp only [VR]
        refine ⟨b, _, rfl, ?_⟩
        have := DatC.go (σ := σ) hb e' 0 (fun _ => lk (xs ()) (n ()).toNat) _ hdc
        rw [he] at this
        exact this
    · cases h
  · rename_i el sz eb esh k lo len kk n
    obtain ⟨rfl, _, _, inf, _, hinf, hsz, _⟩ := sz_of_slice hd
    split at h
    · rename_i z hz
      split at h
      · rename_i he
        have he := Nat.eq_of_beq_eq_true he
        simp only [Option.some.injEq] at h
        subst h
        obtain ⟨hn0, hn1⟩ : 0 ≤ n () ∧ n () < (len () : Int) := hvc (fun _ => 0 ≤ n () ∧ n () < (len () : Int)) (List.mem_singleton.2 rfl)
        simp only [VR] at hx hy
        obtain ⟨rfl, _⟩ := hy
        rcases rowSz_ok hok hz with hs | ⟨p, hs, hp, _⟩
        · rw [hs] at hx
          obtain ⟨_, _, h0⟩ := hx
          omega
        · rw [hs] at hx
          obtain ⟨off, cap, rfl, h1, h2, h3, h4⟩ := hx
          have h1 : off = lo () * p.sz := by rcases h1 with h1 | h1 <;> omega
          refine ⟨.pointer (some ⟨p.b, off + (n ()).toNat * sz, none⟩), ?_, ?_, rfl⟩
          · simp only [Instr.indexAt, asIntOf, Sem.run_bind, Sem.run_pure, Result.andThen_ok, run_under hu]
            rw [if_pos ⟨hn0, by omega⟩]
            simp [run_sizeOf_of hinf, hsz, Addr.add_lit]
          · simp only [VR, hs, PtR, h1, hp, he, Nat.add_mul, Nat.add_zero]
      · cases h
    · cases h
  · rename_i cnt el k off kk n
    obtain ⟨rfl, inf, hinf, hsz⟩ := hd
    simp only [Eff.chk, Option.some.injEq] at h
    subst h
    obtain ⟨hn0, hn1⟩ : 0 ≤ n () ∧ n () < (cnt : Int) := hvc (fun _ => 0 ≤ n () ∧ n () < (cnt : Int)) (List.mem_singleton.2 rfl)
    simp only [VR] at hx hy
    obtain ⟨rfl, _⟩ := hy
    unfold PtR at hx
    split at hx
    · rename_i p hs
      subst hx
      refine ⟨.pointer (some ⟨p.b, off + (n ()).toNat, none⟩), ?_, ?_, rfl⟩
      · simp only [Instr.indexAt, asIntOf, Sem.run_bind, Sem.run_pure, Result.andThen_ok, run_under hu, Instr.sureAddr]
        rw [if_pos ⟨hn0, by omega⟩]
        simp [run_sizeOf_of hinf, hsz, Addr.add_lit]
      · simp only [VR, hs, PtR]
    · exact hx.elim

theorem bnd_ok {dflt : Unit → Int} {x : Option AV} {n : Unit → Int} (h : bnd dflt x = some n) {v : Option Value} (hv : ∀ q, x = some q → ∃ u, v = some u ∧ VR w I σ q u) (hn : x = none → v = none) :
    (v = none ∧ n = dflt) ∨ ∃ k, v = some (.int k (n ())) := by
  unfold bnd at h
  split at h
  · simp only [Option.some.injEq] at h; subst h; exact .inl ⟨hn rfl, rfl⟩
  · simp only [Option.some.injEq] at h; subst h
    obtain ⟨u, hu, hr⟩ := hv _ rfl
    simp only [VR] at hr
    obtain ⟨rfl, _⟩ := hr
    exact .inr ⟨_, hu⟩
  · cases h
theorem run_sliceBound {k : IntKind} {i : Int} {y : Nat} {c : BoundsCode} (h0 : 0 ≤ i) (h1 : i ≤ y) : (Instr.sliceBound (.int k i) y c).run P w = .ok i.toNat w := by
  simp only [Instr.sliceBound, asIntOf, Sem.run_bind, Sem.run_pure, Result.andThen_ok]
  rw [if_pos ⟨h0, h1⟩]
  rfl
/-- the bounds of a slice expression -/
theorem run_sliceBounds {isS : Bool} {len cap : Nat} {lo hi mx : Option Value} {l h m : Int} (hl : (lo = none ∧ l = 0) ∨ ∃ k, lo = some (.int k l)) (hh : (hi = none ∧ h = len) ∨ ∃ k, hi = some (.int k h))
    (hm : (mx = none ∧ m = h) ∨ ∃ k, mx = some (.int k m)) (hmh : mx = none ∨ hi ≠ none) (h0 : 0 ≤ l) (h1 : l ≤ h) (h2 : h ≤ m) (h3 : m ≤ len) (h4 : len ≤ cap) :
    ∃ m' : Nat, (Instr.sliceBounds isS len cap lo hi mx).run P w = .ok (l.toNat, h.toNat, m') w ∧ h.toNat ≤ m' ∧ m' ≤ cap := by
  rcases hm with ⟨rfl, rfl⟩ | ⟨km, rfl⟩
  · refine ⟨cap, ?_, by omega, Nat.le_refl _⟩
    rcases hh with ⟨rfl, rfl⟩ | ⟨kh, rfl⟩ <;> rcases hl with ⟨rfl, rfl⟩ | ⟨kl, rfl⟩ <;> simp only [Instr.sliceBounds, Sem.run_bind, Sem.run_pure, Result.andThen_ok]
    · rfl
    · rw [run_sliceBound h0 (by omega)]; rfl
    · rw [run_sliceBound (by omega) (by omega)]; rfl
    · rw [run_sliceBound (by omega) (by omega)]
      simp only [Result.andThen_ok]
      rw [run_sliceBound h0 (by omega)]; rfl
  · refine ⟨m.toNat, ?_, by omega, by omega⟩
    rcases hh with ⟨rfl, rfl⟩ | ⟨kh, rfl⟩
    · simp at hmh
    · rcases hl with ⟨rfl, rfl⟩ | ⟨kl, rfl⟩ <;> simp only [Instr.sliceBounds, Sem.run_bind, Sem.run_pure, Result.andThen_ok] <;> rw [run_sliceBound (by omega) (by omega)] <;> simp only [Result.andThen_ok] <;> rw [run_sliceBound (by omega) (by omega)]
      · rfl
      · simp only [Result.andThen_ok]
        rw [run_sliceBound h0 (by omega)]; rfl
theorem DatSub {e : List Sh} {xs : List (List D)} {a : Option Addr} {len cap : Nat} {l h m' : Nat} (hd : Dat w I (.slice e) (.list xs) (.slice a len cap)) (h1 : l ≤ h) (h2 : h ≤ xs.length) (h3 : h ≤ m') (h4 : m' ≤ cap) (a' : Option Addr)
    (ha : a' = if m' = l then a else a.map (·.add (l * e.length))) : Dat w I (.slice e) (.list ((xs.drop l).take (h - l))) (.slice a' (h - l) (m' - l)) := by
  simp only [Dat, D.toList] at hd ⊢
  obtain ⟨a0, len0, cap0, e0, g1, g2, g3, g4, g5, g6⟩ := hd
  simp only [Value.slice.injEq] at e0
  obtain ⟨rfl, rfl, rfl⟩ := e0
  refine ⟨a', h - l, m' - l, rfl, ?_, by omega, by omega, ?_, g5, ?_⟩
  · rw [List.length_take, List.length_drop]; omega
  · intro hn
    rw [ha] at hn
    split at hn
    · omega
    · cases a with
      | none => have := g4 rfl; omega
      | some _ => simp at hn
  · intro i hi
    obtain ⟨b, off, rfl, hb, hdc⟩ := g6 (l + i) (by omega)
    refine ⟨b, off + l * e.length, ?_, hb, ?_⟩
    · rw [ha, if_neg (by omega)]
      simp [Addr.add_lit]
    · have e1 : lk ((xs.drop l).take (h - l)) i = lk xs (l + i) := by
        simp only [lk, List.getD, List.getElem?_take, List.getElem?_drop]
        rw [if_pos hi]
      rw [e1]
      rwa [Nat.add_mul, ← Nat.add_assoc] at hdc
theorem sliceAv_ok (hok : Ok w I σ M) (hT : ∀ t i, T t = some i → TIok P t i) {t : Nat} {ti : TI} (ht : tget T t = some ti) (x : AV) (lo hi mx : Option AV) (u : Value) (lo' hi' mx' : Option Value) (e : Eff) (h : sliceAv M ti.td x lo hi mx = some e) (hvc : ∀ p ∈ e.vc, p ())
    (hx : VR w I σ x u) (hlo : ∀ q, lo = some q → ∃ u, lo' = some u ∧ VR w I σ q u) (hlo0 : lo = none → lo' = none) (hhi : ∀ q, hi = some q → ∃ u, hi' = some u ∧ VR w I σ q u) (hhi0 : hi = none → hi' = none)
    (hmx : ∀ q, mx = some q → ∃ u, mx' = some u ∧ VR w I σ q u) (hmx0 : mx = none → mx' = none) (hmh : mx' = none ∨ hi' ≠ none) :
    ∃ r, (Instr.sliceAt t u lo' hi' mx').run P w = .ok r w ∧ VR w I σ e.val r ∧ e.upd = [] := by
  obtain ⟨d, hu, hd, _⟩ := under_of hT ht
  unfold sliceAv at h
  split at h <;> (try (cases h; done))
  rename_i l hl
  have hl := bnd_ok hl hlo hlo0
  split at h <;> (try (cases h; done)) <;> rename_i htd <;> rw [htd] at hd
  · rename_i el sz eb esh nn e' xs
    obtain ⟨rfl, _, _, inf, _, hinf, hsz, _⟩ := sz_of_slice hd
    split at h <;> (try (cases h; done))
    rename_i h' hh
    split at h <;> (try (cases h; done))
    rename_i m hm he
    have hh := bnd_ok hh hhi hhi0
    have hm := bnd_ok hm hmx hmx0
    have he := Nat.eq_of_beq_eq_true he
    simp only [Option.some.injEq] at h
    subst h
    obtain ⟨b0, b1, b2, b3⟩ : 0 ≤ l () ∧ l () ≤ h' () ∧ h' () ≤ m () ∧ m () ≤ ((xs ()).length : Int) := hvc (fun _ => 0 ≤ l () ∧ l () ≤ h' () ∧ h' () ≤ m () ∧ m () ≤ ((xs ()).length : Int)) (List.mem_singleton.2 rfl)
    simp only [VR] at hx
    have hx := hx.1
    have hx' := hx
    simp only [Dat, D.toList] at hx'
    obtain ⟨a, len, cap, rfl, h2, h3, h4, h5, h6, h7⟩ := hx'
    obtain ⟨m', r1, r2, r3⟩ := run_sliceBounds (P := P) (w := w) (isS := true) (len := len) (cap := cap) (l := l ()) (h := h' ()) (m := m ()) (by rcases hl with ⟨e1, e2⟩ | e1; exact .inl ⟨e1, by rw [e2]⟩; exact .inr e1)
      (by rcases hh with ⟨e1, e2⟩ | e1; exact .inl ⟨e1, by rw [e2, h2]⟩; exact .inr e1) (by rcases hm with ⟨e1, e2⟩ | e1; exact .inl ⟨e1, by rw [e2]⟩; exact .inr e1) hmh b0 b1 b2 (by omega) h3
    refine ⟨.slice (if m' = (l ()).toNat then a else a.map (·.add ((l ()).toNat * e'.length))) ((h' ()).toNat - (l ()).toNat) (m' - (l ()).toNat), ?_, ?_, rfl⟩
    rotate_left
    · simp only [VR]
      exact ⟨DatSub hx (l := (l ()).toNat) (h := (h' ()).toNat) (m' := m') (by omega) (by omega) r2 r3 _ rfl, by simp⟩
    · simp only [Instr.sliceAt, Instr.slice, Sem.run_bind, run_under hu, Result.andThen_ok, r1, run_sizeOf_of hinf, hsz, he, Sem.run_pure]
  · rename_i el sz eb esh n s0 len
    obtain ⟨rfl, _, _, inf, _, hinf, hsz, _⟩ := sz_of_slice hd
    split at h <;> (try (cases h; done))
    rename_i h' hh
    split at h <;> (try (cases h; done))
    rename_i m z hm hz
    split at h <;> (try (cases h; done))
    rename_i he
    have hh := bnd_ok hh hhi hhi0
    have hm := bnd_ok hm hmx hmx0
    have he := Nat.eq_of_beq_eq_true he
    simp only [Option.some.injEq] at h
    subst h
    obtain ⟨b0, b1, b2, b3⟩ : 0 ≤ l () ∧ l () ≤ h' () ∧ h' () ≤ m () ∧ m () ≤ (len () : Int) := hvc (fun _ => 0 ≤ l () ∧ l () ≤ h' () ∧ h' () ≤ m () ∧ m () ≤ (len () : Int)) (List.mem_singleton.2 rfl)
    simp only [VR] at hx
    have sb : ∀ (cap : Nat), len () ≤ cap → _ := fun cap hc => run_sliceBounds (P := P) (w := w) (isS := true) (len := len ()) (cap := cap) (l := l ()) (h := h' ()) (m := m ()) (by rcases hl with ⟨e1, e2⟩ | e1; exact .inl ⟨e1, by rw [e2]⟩; exact .inr e1)
      (by rcases hh with ⟨e1, e2⟩ | e1; exact .inl ⟨e1, by rw [e2]⟩; exact .inr e1) (by rcases hm with ⟨e1, e2⟩ | e1; exact .inl ⟨e1, by rw [e2]⟩; exact .inr e1) hmh b0 b1 b2 b3 hc
    rcases rowSz_ok hok hz with hs | ⟨p, hs, hp, _⟩
    · rw [hs] at hx
      obtain ⟨rfl, e1, e2⟩ := hx
      obtain ⟨m', r1, r2, r3⟩ := sb 0 (by omega)
      rw [e2] at r1
      refine ⟨.slice none ((h' ()).toNat - (l ()).toNat) (m' - (l ()).toNat), ?_, ?_, rfl⟩
      · simp only [Instr.sliceAt, Instr.slice, Sem.run_bind, run_under hu, Result.andThen_ok, r1, run_sizeOf_of hinf, Sem.run_pure, Option.map_none, ite_self]
      · simp only [VR, hs, MsR]
        have q1 : (h' ()).toNat - (l ()).toNat = 0 := by omega
        have q2 : m' - (l ()).toNat = 0 := by omega
        rw [q1, q2]
        exact ⟨rfl, by omega, rfl⟩
    · rw [hs] at hx
      obtain ⟨off, cap, rfl, h1, h2, h3, h4⟩ := hx
      obtain ⟨m', r1, r2, r3⟩ := sb cap h3
      refine ⟨.slice (if m' = (l ()).toNat then some ⟨p.b, off, none⟩ else some (⟨p.b, off + (l ()).toNat * p.sz, none⟩ : Addr)) ((h' ()).toNat - (l ()).toNat) (m' - (l ()).toNat), ?_, ?_, rfl⟩
      · simp only [Instr.sliceAt, Instr.slice, Sem.run_bind, run_under hu, Result.andThen_ok, r1, run_sizeOf_of hinf, Sem.run_pure, Option.map_some, Addr.add_lit, hsz, hp, he]
      · simp only [VR, hs, MsR]
        by_cases hm' : m' = (l ()).toNat
        · refine ⟨off, m' - (l ()).toNat, by simp [hm'], .inl (by omega), by omega, by omega, h4⟩
        · refine ⟨off + (l ()).toNat * p.sz, m' - (l ()).toNat, by simp [hm'], .inr ?_, by omega, by omega, h4⟩
          rcases h1 with h1 | h1
          · omega
          · rw [h1, Nat.add_mul]
  · rename_i s
    simp only [TDok] at hd
    subst hd
    split at h <;> (try (cases h; done))
    rename_i h' hh
    have hh := bnd_ok hh hhi hhi0
    obtain rfl := hmx0 rfl
    simp only [Option.some.injEq] at h
    subst h
    obtain ⟨b0, b1, b2⟩ : 0 ≤ l () ∧ l () ≤ h' () ∧ h' () ≤ ((s ()).length : Int) := hvc (fun _ => 0 ≤ l () ∧ l () ≤ h' () ∧ h' () ≤ ((s ()).length : Int)) (List.mem_singleton.2 rfl)
    simp only [VR] at hx
    obtain ⟨bs, rfl, h1, h2⟩ := hx
    rw [← h1, ← size_of_data] at b2
    obtain ⟨m', r1, r2, r3⟩ := run_sliceBounds (P := P) (w := w) (isS := false) (len := bs.size) (cap := bs.size) (l := l ()) (h := h' ()) (m := h' ()) (by rcases hl with ⟨e1, e2⟩ | e1; exact .inl ⟨e1, by rw [e2]⟩; exact .inr e1)
      (by rcases hh with ⟨e1, e2⟩ | e1; exact .inl ⟨e1, by rw [e2]; simp only; rw [← h1, ← size_of_data]⟩; exact .inr e1) (.inl ⟨rfl, rfl⟩) (.inl rfl) b0 b1 (by omega) b2 (Nat.le_refl _)
    refine ⟨.string (bs.extract (l ()).toNat (h' ()).toNat), ?_, ?_, rfl⟩
    · simp only [Instr.sliceAt, Instr.slice, Sem.run_bind, run_under hu, Result.andThen_ok, r1, Option.isSome_none, Bool.false_eq_true, if_false, Sem.run_pure]
    · simp only [VR]
      refine ⟨_, rfl, ?_, ?_⟩
      · rw [Lib.extract_data, h1]
      · simp only [ByteArray.size_extract]; omega
theorem indexStr_ok (hT : ∀ t i, T t = some i → TIok P t i) {t : Nat} {ti : TI} (ht : tget T t = some ti) (htd : ti.td = .str) {s : Unit → List UInt8} {k : IntKind} {n : Unit → Int} {u v : Value} (hx : VR w I σ (.str s) u) (hy : VR w I σ (.int k n) v)
    (h0 : 0 ≤ n ()) (h1 : n () < ((s ()).length : Int)) : ∃ r, (Instr.index t u v).run P w = .ok r w ∧ VR w I σ (.int .u8 fun _ => ((lk (s ()) (n ()).toNat).toNat : Int)) r := by
  obtain ⟨d, hu, hd, _⟩ := under_of hT ht
  rw [htd] at hd
  simp only [TDok] at hd
  subst hd
  simp only [VR] at hx hy
  obtain ⟨bs, rfl, e1, e2⟩ := hx
  obtain ⟨rfl, _⟩ := hy
  have hlt : (n ()).toNat < bs.size := by rw [size_of_data, e1]; omega
  have hb : bs[(n ()).toNat]? = some bs[(n ()).toNat] := by simp [hlt]
  have hl : lk (s ()) (n ()).toNat = bs[(n ()).toNat] := by
    have : (s ())[(n ()).toNat]? = some bs[(n ()).toNat] := by
      rw [← e1]
      have hlt' : (n ()).toNat < bs.data.size := hlt
      simp only [Array.getElem?_toList, Array.getElem?_eq_getElem hlt']
      rfl
    simp [lk, List.getD, this]
  refine ⟨.int .u8 (bs[(n ()).toNat].toNat : Int), ?_, ?_⟩
  · simp only [Instr.index, asIntOf, Sem.run_bind, Sem.run_pure, Result.andThen_ok, run_under hu, if_pos h0, hb]
  · simp only [VR, hl, true_and]
    rw [wf_iff]
    have := bs[(n ()).toNat].toNat_lt
    simp [IntKind.min, IntKind.max, IntKind.signed, IntKind.bits]
    omega
/-! ### aggregates -/
theorem VRs.lset : ∀ {cs : List AV} {us : List Value} {v : AV} {u : Value} (i : Nat), VRs w I σ cs us → VR w I σ v u → VRs w I σ (Am.lset cs i v) (us.set i u)
  | [], us, v, u, i, h, _ => by simp only [VRs] at h; simp [h, Am.lset, VRs]
  | c :: cs, us, v, u, 0, h, hv => by
    simp only [VRs] at h
    obtain ⟨x, us', rfl, _, h⟩ := h
    simp only [Am.lset, List.set_cons_zero, VRs]
    exact ⟨u, us', rfl, hv, h⟩
  | c :: cs, us, v, u, i + 1, h, hv => by
    simp only [VRs] at h
    obtain ⟨x, us', rfl, hx, h⟩ := h
    simp only [Am.lset, List.set_cons_succ, VRs]
    exact ⟨x, _, rfl, hx, VRs.lset i h hv⟩
theorem lset_length (cs : List AV) (i : Nat) (v : AV) : (lset cs i v).length = cs.length := by rw [lset_eq]; simp
theorem lput_length : ∀ (vs cs : List AV) (off : Nat), (lput cs off vs).length = cs.length
  | [], _, _ => rfl
  | v :: vs, cs, off => by rw [lput, lput_length vs, lset_length]
/-- cells laid one behind the other -/
theorem VRs.lput : ∀ (vs : List AV) (ws : List Value) (cs : List AV) (us : Array Value) (off k : Nat), VRs w I σ vs ws → VRs w I σ cs us.toList →
    VRs w I σ (Am.lput cs (off + k) vs) ((ws.zipIdx k).foldl (fun (cs : Array Value) (x : Value × Nat) => cs.setIfInBounds (off + x.2) x.1) us).toList
  | [], ws, cs, us, off, k, h, h' => by simp only [VRs] at h; simpa [h, Am.lput] using h'
  | v :: vs, ws, cs, us, off, k, h, h' => by
    simp only [VRs] at h
    obtain ⟨u, ws', rfl, hu, h⟩ := h
    simp only [Am.lput, List.zipIdx_cons, List.foldl_cons]
    exact VRs.lput vs ws' _ _ off (k + 1) h (by rw [Array.toList_setIfInBounds]; exact VRs.lset (off + k) h' hu)
theorem VR.plain : ∀ {v : AV} {u : Value}, plain1 v = true → VR w I σ v u → u.cells = #[u] ∧ u.oneCell' = true
  | .un, _, h, _ => by simp [plain1] at h
  | .udf, _, h, _ => by simp [plain1] at h
  | .agg _, _, h, _ => by simp [plain1] at h
  | .tup _, _, h, _ => by simp [plain1] at h
  | .int k n, _, _, h => by simp only [VR] at h; obtain ⟨rfl, _⟩ := h; exact ⟨rfl, rfl⟩
  | .bool b, _, _, h => by simp only [VR] at h; subst h; exact ⟨rfl, rfl⟩
  | .str s, _, _, h => by simp only [VR] at h; obtain ⟨_, rfl, _⟩ := h; exact ⟨rfl, rfl⟩
  | .nils, _, _, h => by simp only [VR] at h; subst h; exact ⟨rfl, rfl⟩
  | .nilp, _, _, h => by simp only [VR] at h; subst h; exact ⟨rfl, rfl⟩
  | .nilf, _, _, h => by simp only [VR] at h; subst h; exact ⟨rfl, rfl⟩
  | .sl nn e xs, _, _, h => by
    simp only [VR, Dat] at h
    obtain ⟨⟨_, _, _, rfl, _⟩, _⟩ := h
    exact ⟨rfl, rfl⟩
  | .pt cs, _, _, h => by simp only [VR] at h; obtain ⟨_, _, rfl, _⟩ := h; exact ⟨rfl, rfl⟩
  | .ms n lo len, _, _, h => by
    simp only [VR] at h
    unfold MsR at h
    split at h
    · exact h.elim
    · obtain ⟨rfl, _⟩ := h; exact ⟨rfl, rfl⟩
    · obtain ⟨_, _, rfl, _⟩ := h; exact ⟨rfl, rfl⟩
  | .mp n off, _, _, h => by
    simp only [VR] at h
    unfold PtR at h
    split at h
    · subst h; exact ⟨rfl, rfl⟩
    · exact h.elim
  | .me n i off, _, _, h => by
    simp only [VR] at h
    unfold PtR at h
    split at h
    · subst h; exact ⟨rfl, rfl⟩
    · exact h.elim
  | .ax n off c i, _, _, h => by
    simp only [VR] at h
    unfold PtR at h
    split at h
    · subst h; exact ⟨rfl, rfl⟩
    · exact h.elim
  | .fn f cs, _, _, h => by simp only [VR] at h; obtain ⟨_, rfl, _⟩ := h; exact ⟨rfl, rfl⟩
theorem VRs.ones : ∀ {vs : List AV} {us : List Value}, plains vs = true → VRs w I σ vs us → ∀ u ∈ us, u.oneCell' = true
  | [], us, _, h => by simp only [VRs] at h; simp [h]
  | v :: vs, us, hp, h => by
    unfold plains at hp
    split at hp
    · rename_i h1
      simp only [VRs] at h
      obtain ⟨u, us', rfl, hu, h⟩ := h
      intro x hx
      rcases List.mem_cons.1 hx with rfl | hx
      · exact (VR.plain h1 hu).2
      · exact VRs.ones hp h x hx
    · cases hp
theorem cellsOf_ok {v : AV} {u : Value} (hp : plains (cellsOf v) = true) (h : VR w I σ v u) : VRs w I σ (cellsOf v) u.cells.toList ∧ ∀ c ∈ u.cells.toList, c.oneCell' = true := by
  have key : VRs w I σ (cellsOf v) u.cells.toList := by
    unfold cellsOf
    split
    · simp only [VR] at h
      obtain ⟨us, rfl, h⟩ := h
      exact h
    · rename_i hne
      have hp' : plain1 v = true := by
        unfold cellsOf at hp
        split at hp
        · exact (hne _ rfl).elim
        · unfold plains at hp
          split at hp
          · assumption
          · cases hp
      rw [(VR.plain hp' h).1]
      simp only [VRs]
      exact ⟨u, [], rfl, h, rfl⟩
  exact ⟨key, VRs.ones hp key⟩
/-- the parts of an aggregate, as the machine lays them -/
theorem fill_ok (place : Nat → Option (Nat × Nat)) (fs : List (Nat × Nat × Nat)) (hpl : ∀ i off ft sz, fget fs i = some (off, ft, sz) → place i = some (off, sz)) :
    ∀ (ps : List (Nat × AV)) (qs : List (Nat × Value)) (cs cs' : List AV) (us : Array Value), buildAv fs cs ps = some cs' → ps.length = qs.length → (∀ (j i : Nat) (v : AV), ps[j]? = some (i, v) → ∃ u, qs[j]? = some (i, u) ∧ VR w I σ v u) → VRs w I σ cs us.toList →
    ∃ us', Instr.fill place us qs = some us' ∧ VRs w I σ cs' us'.toList
  | [], qs, cs, cs', us, h, hl, _, hv => by
    simp only [buildAv, Option.some.injEq] at h
    subst h
    cases qs with
    | nil => exact ⟨us, rfl, hv⟩
    | cons q qs => simp at hl
  | (i, v) :: ps, [], cs, cs', us, h, hl, _, hv => by simp at hl
  | (i, v) :: ps, (i', u) :: qs, cs, cs', us, h, hl, hps, hv => by
    obtain ⟨u', e, hu⟩ := hps 0 i v rfl
    simp only [List.getElem?_cons_zero, Option.some.injEq, Prod.mk.injEq] at e
    obtain ⟨rfl, rfl⟩ := e
    unfold buildAv at h
    split at h <;> (try (cases h; done))
    rename_i off ft sz hf
    split at h <;> (try (cases h; done))
    rename_i h1 h2 h3
    rw [llen_eq] at h1 h3
    have h1 := Nat.eq_of_beq_eq_true h1
    have h3 := Nat.le_of_ble_eq_true h3
    obtain ⟨g1, g2⟩ := cellsOf_ok h2 hu
    have l1 := VRs.length g1
    have l2 := VRs.length hv
    simp only [Array.length_toList] at l1 l2
    simp only [Instr.fill, hpl _ _ _ _ hf]
    rw [if_neg (by simp; omega)]
    refine fill_ok place fs hpl ps qs _ cs' _ h (by simpa using hl) (fun j i v hj => by simpa using hps (j + 1) i v (by simpa using hj)) ?_
    have := VRs.lput (cellsOf v) u.cells.toList cs us off 0 g1 hv
    simp only [Nat.add_zero] at this
    rw [← Array.foldl_toList, Array.toList_zipIdx]
    exact this
theorem pairs_ok (h : EnvR w I σ env a.tmps) : ∀ (ps : List (Nat × Operand)), (pairs env ps).length = (ps.map fun (i, x) => (i, a.eval x)).length ∧ ∀ (j i : Nat) (v : AV), (pairs env ps)[j]? = some (i, v) → ∃ u, (ps.map fun (i, x) => (i, a.eval x))[j]? = some (i, u) ∧ VR w I σ v u
  | [] => ⟨rfl, by simp [pairs]⟩
  | (k, x) :: ps => by
    obtain ⟨h1, h2⟩ := pairs_ok h ps
    refine ⟨by simp [pairs, h1], fun j i v hj => ?_⟩
    cases j with
    | zero =>
      simp only [pairs, List.getElem?_cons_zero, Option.some.injEq, Prod.mk.injEq] at hj
      obtain ⟨rfl, rfl⟩ := hj
      exact ⟨_, rfl, opv_ok h x⟩
    | succ j => simpa using h2 j i v (by simpa [pairs] using hj)
end
end Go.Am
