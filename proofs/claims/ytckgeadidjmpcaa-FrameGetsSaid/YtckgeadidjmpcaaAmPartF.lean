/- alibidocs.SamePlaced keeps its contract: it takes its first row over. -/
import Derived.Test.YtckgeadidjmpcaaAmPartE
namespace Go.Am
set_option linter.all false
set_option linter.deprecated false
open Go.Proofs
set_option maxRecDepth 100000
set_option maxHeartbeats 4000000
def fspC : Contract := { modes := [.mut, .mut], fn := fun args M => match args, M with
  | [.ms 0 lo len, .ms 1 lo1 len1], [(0, .dp [.int .u8, .slice [.int .u8], .int .i64, .int .i64] 1 xs), (1, .row false [.int .u8, .str, .int .i64, .int .i64] zs)] =>
    some ⟨[fun _ => lo () = 0 ∧ len () = (xs ()).length, fun _ => lo1 () + len1 () ≤ (zs ()).length, fun _ => (zs ()).length ≤ big ∧ (xs ()).length ≤ big ∧ ∀ i, i < (xs ()).length → (lk (lk (xs ()) i) 1).toList.length ≤ big],
      .bool fun _ => sameP (xs ()) (((zs ()).drop (lo1 ())).take (len1 ())), [(0, none)]⟩
  | _, _ => none }
section
variable {w w' w0 : World} {po q1 : Option Pl} {xs zs : List (List D)} {a a' : Act}
def E2 (n l1 n1 : Nat) : List AV := ev 78 [(0, .ms 0 (fun _ => 0) fun _ => n), (1, .ms 1 (fun _ => l1) fun _ => n1)]
theorem c64_is : c64 = .seq (cL c64) (.seq (cL (cR c64)) (.seq (.seq (cL (cL (cR (cR c64)))) c64BL) (cR (cR (cR c64))))) := by rfl
theorem sameP_of {n l1 n1 : Nat} (hn : xs.length = n) (hn1 : n1 = n) (hz : l1 + n1 ≤ zs.length) : sameP xs ((zs.drop l1).take n1) = (List.range n).all fun j => spOk (lk xs j) (lk zs (l1 + j)) := by
  have hl : ((zs.drop l1).take n1).length = n := by rw [List.length_take, List.length_drop]; omega
  rw [sameP, hl, hn]
  simp only [beq_self_eq_true, Bool.true_and]
  rw [Bool.eq_iff_iff, List.all_eq_true, List.all_eq_true]
  have e : ∀ j, j ∈ List.range n → lk ((zs.drop l1).take n1) j = lk zs (l1 + j) := fun j hj => by
    rw [List.mem_range] at hj
    simp only [lk, List.getD, List.getElem?_take, List.getElem?_drop]
    rw [if_pos (by omega)]
  constructor
  · intro h j hj; rw [← e j hj]; exact h j hj
  · intro h j hj; rw [e j hj]; exact h j hj
theorem sp_all {n l1 n1 : Nat} (hn : xs.length = n) (h : SpA w0 po q1 zs xs (E2 n l1 n1) a w) (hz : l1 + n1 ≤ zs.length) (hn2 : zs.length < 4611686018427387904) (hn3 : n < 4611686018427387904) (hpay : ∀ i, i < n → (lk (lk xs i) 1).toList.length < 4611686018427387904) :
    c64.wp Try.prog (fun e a' w' => e = .ret ∧ ∃ xs', SpA w0 po q1 zs xs' (Er (sameP xs ((zs.drop l1).take n1))) a' w') a w := by
  rw [c64_is]
  refine wp_seq ?_
  refine seg (G := G64) (E := E2 n l1 n1) (R := fun e E' => e = .normal ∧ E' = E2 n l1 n1) mixed tyT G64_ok (c := cL c64) (by kernel_rfl) h (by rfl) (fun e E' hr => by rcases hr with ⟨_, rfl⟩; rfl) ?_ ?_
  · refine ⟨E2 n l1 n1, ⟨rfl, rfl⟩, ?_⟩
    conv => cbv
    simp [Hold.iff]
  intro e E' a1 w1 hr h1
  obtain ⟨rfl, rfl⟩ := hr
  refine wp_seq (x := cL (cR c64)) ?_
  refine seg (G := G64) (E := E2 n l1 n1) (R := fun e E' => (e = .normal ∧ n1 = n ∧ E' = E2 n l1 n1) ∨ (e = .ret ∧ n1 ≠ n ∧ E' = Er false)) mixed tyT G64_ok (c := cL (cR c64)) (by kernel_rfl) h1 (by rfl) (fun e E' hr => by rcases hr with ⟨_, _, rfl⟩ | ⟨_, _, rfl⟩ <;> rfl) ?_ ?_
  · conv => cbv
    by_cases hnn : n1 = n
    · refine .ofF (by simp [hnn]) ?_
      refine ⟨E2 n l1 n1, .inl ⟨rfl, hnn, rfl⟩, ?_⟩
      conv => cbv
      simp [Hold.iff]
    · refine .ofT (by simp; exact fun e => hnn (Int.ofNat.inj e).symm) ?_
      conv => cbv
      refine ⟨Er false, .inr ⟨rfl, hnn, rfl⟩, ?_⟩
      conv => cbv
      simp [Hold.iff]
  intro e E' a2 w2 hr h2
  rcases hr with ⟨rfl, hnn, rfl⟩ | ⟨rfl, hnn, rfl⟩
  · show (Code.seq (.seq (cL (cL (cR (cR c64)))) c64BL) (cR (cR (cR c64)))).wp Try.prog _ a2 w2
    refine wp_seq (wp_seq ?_)
    refine seg (G := G64) (E := E2 n l1 n1) (R := fun e E' => e = .normal ∧ E' = E5 n l1 n1 0) mixed tyT G64_ok (c := cL (cL (cR (cR c64)))) (by kernel_rfl) h2 (by rfl) (fun e E' hr => by rcases hr with ⟨_, rfl⟩; rfl) ?_ ?_
    · refine ⟨E5 n l1 n1 0, ⟨rfl, rfl⟩, ?_⟩
      conv => cbv
      simp [Hold.iff]
    intro e E' a3 w3 hr h3
    obtain ⟨rfl, rfl⟩ := hr
    show c64BL.wp Try.prog _ a3 w3
    refine wp_mono (sp_outer hn h3 hnn hz hn2 hpay) fun e4 a4 w4 hq => ?_
    have hP := sameP_of hn hnn hz (xs := xs) (zs := zs)
    rcases hq with ⟨rfl, hok, xs', h4⟩ | ⟨rfl, ⟨j, hj, hbad⟩, xs', h4⟩
    · show (cR (cR (cR c64))).wp Try.prog _ a4 w4
      have hP : sameP xs ((zs.drop l1).take n1) = true := by
        rw [hP, List.all_eq_true]
        intro j hj
        exact hok j (List.mem_range.1 hj)
      rw [hP]
      refine seg (G := G64) (E := E5 n l1 n1 n) (R := fun e E' => e = .ret ∧ E' = Er true) mixed tyT G64_ok (c := cR (cR (cR c64))) (by kernel_rfl) h4 (by rfl) (fun e E' hr => by rcases hr with ⟨_, rfl⟩; rfl) ?_ ?_
      · refine ⟨Er true, ⟨rfl, rfl⟩, ?_⟩
        conv => cbv
        simp [Hold.iff]
      · intro e5 E5' a5 w5 hr5 h5
        obtain ⟨rfl, rfl⟩ := hr5
        exact ⟨rfl, xs', h5⟩
    · have hP : sameP xs ((zs.drop l1).take n1) = false := by
        rw [hP]
        rw [← Bool.not_eq_true, List.all_eq_true]
        intro hall
        have := hall j (List.mem_range.2 hj)
        rw [hbad] at this
        cases this
      simp only [Exit.then]
      rw [hP]
      exact ⟨trivial, xs', h4⟩
  · have hP : sameP xs ((zs.drop l1).take n1) = false := by
      have hl : ((zs.drop l1).take n1).length = n1 := by rw [List.length_take, List.length_drop]; omega
      rw [sameP, hl, hn]
      have hne : (n == n1) = false := by simpa using fun e : n = n1 => hnn e.symm
      rw [hne]
      rfl
    simp only [AExit.to, Exit.then]
    rw [hP]
    exact ⟨trivial, xs, h2⟩
theorem fsp_ok : CSound Try.prog 64 fspC := by
  refine ⟨fun args M r hr hvc => ?_, fun args M r hr => by cases hr⟩
  unfold fspC at hr
  simp only at hr
  split at hr <;> cases hr
  rename_i lo len lo1 len1 xs zs
  have hv1 : lo () = 0 ∧ len () = (xs ()).length := hvc _ List.mem_cons_self
  have hv2 : lo1 () + len1 () ≤ (zs ()).length := hvc (fun _ => lo1 () + len1 () ≤ (zs ()).length) (List.mem_cons_of_mem _ List.mem_cons_self)
  have hv3 : (zs ()).length ≤ big ∧ (xs ()).length ≤ big ∧ ∀ i, i < (xs ()).length → (lk (lk (xs ()) i) 1).toList.length ≤ big := hvc (fun _ => (zs ()).length ≤ big ∧ (xs ()).length ≤ big ∧ ∀ i, i < (xs ()).length → (lk (lk (xs ()) i) 1).toList.length ≤ big) (List.mem_cons_of_mem _ (List.mem_cons_of_mem _ List.mem_cons_self))
  clear hvc
  intro w I σ vs hok hfree hargs o a K Q hK
  obtain ⟨po, hpo, ho0⟩ := hok.obj 0 _ rfl
  obtain ⟨q1, hq1, ho1⟩ := hok.obj 1 _ rfl
  have hrun : (callFunc 64 vs.toArray).run Try.prog w = .ok (.enter 64 vs.toArray) w := by
    have hn : (Try.f64.name == "runtime.NumGoroutine") = false := by kernel_rfl
    have hb : Try.f64.body = some c64 := by kernel_rfl
    simp only [callFunc, Sem.run_bind, run_program, Result.andThen_ok, Try.func64, hn, hb, Option.isNone_some, Bool.false_eq_true, if_false, Sem.run_pure]
  rw [hrun]
  refine calls_of_wp Try.func64 (by kernel_rfl : Try.f64.body = some c64) ?_
  simp only [VRs] at hargs
  obtain ⟨u0, us0, rfl, hu0, u1, us1, rfl, hu1, rfl⟩ := hargs
  have hO : ∀ b, IA po b → Owned σ [(0, .dp PlS 1 xs), (1, .row false RfS zs)] b := fun b ⟨p, hp, hf⟩ => ⟨0, _, p, rfl, trivial, by rw [hpo, hp], hf⟩
  have hA : SpA w po q1 (zs ()) (xs ()) (E2 (xs ()).length (lo1 ()) (len1 ())) { tmps := [u0, u1].toArray ++ Array.replicate (Try.f64.ntmps - [u0, u1].toArray.size) undef, defers := [] } w := by
    refine ⟨⟨dp_any ho0, row_any ho1, fun q hq hi => ?_, rfl, rfl, rfl, Nat.le_refl _, fun _ _ _ _ => rfl⟩, fun t => ?_, ?_, rfl⟩
    · obtain ⟨p, hp, hf⟩ := hi
      have := hok.inj 0 1 _ _ p q q.b rfl rfl trivial trivial (by rw [hpo, hp]) (by rw [hq1, hq]) hf (foot_b _ q)
      cases this
    · by_cases h2 : t < 2
      · have hg : ([u0, u1].toArray ++ Array.replicate (Try.f64.ntmps - [u0, u1].toArray.size) undef).getD t undef = [u0, u1].getD t undef := by
          rw [Array.getD_eq_getD_getElem?, Array.getElem?_append_left (by simp; omega)]
          simp [List.getD]
        simp only
        rw [hg]
        have ht : t = 0 ∨ t = 1 := by omega
        rcases ht with rfl | rfl
        · have e0 : lget (E2 (xs ()).length (lo1 ()) (len1 ())) 0 = .ms 0 (fun _ => 0) fun _ => (xs ()).length := by rfl
          have e1 : [u0, u1].getD 0 undef = u0 := by rfl
          rw [e0, e1]
          simp only [VR] at hu0 ⊢
          rw [hpo, hv1.1, hv1.2] at hu0
          have e2 : SA po q1 0 = some po := by rfl
          rw [e2]
          exact hu0
        · have e0 : lget (E2 (xs ()).length (lo1 ()) (len1 ())) 1 = .ms 1 (fun _ => lo1 ()) fun _ => len1 () := by rfl
          have e1 : [u0, u1].getD 1 undef = u1 := by rfl
          rw [e0, e1]
          simp only [VR] at hu1 ⊢
          rw [hq1] at hu1
          have e2 : SA po q1 1 = some q1 := by rfl
          rw [e2]
          exact hu1
      · obtain ⟨s, rfl⟩ : ∃ s, t = 2 + s := ⟨t - 2, by omega⟩
        have e : lget (E2 (xs ()).length (lo1 ()) (len1 ())) (2 + s) = lget (uns 76) s := by rw [Nat.add_comm]; rfl
        rw [e, uns_get]
        simp only [VR]
    · show 78 ≤ _
      rw [Array.size_append, Array.size_replicate, show Try.f64.ntmps = 78 by rfl]
      simp
  refine wp_mono (sp_all (n1 := len1 ()) rfl hA hv2 (by have := hv3.1; unfold big at this; omega) (by have := hv3.2.1; unfold big at this; omega) (fun i hi => by have := hv3.2.2 i hi; unfold big at this; omega)) fun e a' w' hq => ?_
  obtain ⟨rfl, xs', h⟩ := hq
  refine ⟨h.def0, .bool (sameP (xs ()) (((zs ()).drop (lo1 ())).take (len1 ()))), ?_, ?_⟩
  · have h4 := h.env 4
    have e : lget (Er (sameP (xs ()) (((zs ()).drop (lo1 ())).take (len1 ())))) 4 = .bool fun _ => sameP (xs ()) (((zs ()).drop (lo1 ())).take (len1 ())) := by rfl
    rw [e] at h4
    simp only [VR] at h4
    have hres : Try.f64.results = #[.tmp 4] := by kernel_rfl
    rw [Array.getD_eq_getD_getElem?] at h4
    simp [results, hres, h4]
  · refine hK _ _ ?_
    have hm := h.mem
    have hget : ∀ k o, mget (mapply [(0, MObj.dp PlS 1 xs), (1, MObj.row false RfS zs)] [(0, none)]) k = some o → k = 1 ∧ o = .row false RfS zs := fun k o hk => by
      have e : mapply [(0, MObj.dp PlS 1 xs), (1, MObj.row false RfS zs)] [(0, none)] = [(1, .row false RfS zs)] := by rfl
      rw [e] at hk
      simp only [mget] at hk
      split at hk <;> (try (cases hk; done))
      rename_i hb
      cases hk
      exact ⟨(Nat.eq_of_beq_eq_true hb).symm, rfl⟩
    have hOw : ∀ b, Owned σ (mapply [(0, MObj.dp PlS 1 xs), (1, MObj.row false RfS zs)] [(0, none)]) b → Owned σ [(0, .dp PlS 1 xs), (1, .row false RfS zs)] b := by
      rintro b ⟨k, o', p, hk, ho', hs, hf⟩
      obtain ⟨rfl, rfl⟩ := hget k o' hk
      exact ⟨1, _, p, rfl, trivial, hs, hf⟩
    have hblk : ∀ b, b < w.heap.size → ¬ Owned σ [(0, .dp PlS 1 xs), (1, .row false RfS zs)] b → w'.heap[b]? = w.heap[b]? := fun b hb hn => hm.same b hb (fun hi => hn (hO b hi)) fun q hq e => hn ⟨1, _, q, rfl, trivial, by rw [hq1, hq], e⟩
    refine ⟨I, σ, by simp only [VR], ⟨fun b hb => Nat.lt_of_lt_of_le (hok.lt b hb) hm.size, fun k o' hk => ?_, fun b hb => hok.sep b (hOw b hb), fun k k' o1 o2 p p' b hk hk' _ _ _ _ _ _ => ?_⟩, ⟨hm.os, hm.tape, hm.output, hm.size, hblk, fun _ h => h, fun _ h => .inl h, fun b hb => .inl (hOw b hb), fun _ _ h => h⟩⟩
    · obtain ⟨rfl, rfl⟩ := hget k o' hk
      exact ⟨q1, hq1, row_any hm.row⟩
    · rw [(hget k o1 hk).1, (hget k' o2 hk').1]
end
end Go.Am
/- alibilaw03.told keeps its contract: it returns true of what Split tells. -/
namespace Go.Am
set_option linter.all false
set_option linter.deprecated false
open Go.Proofs
set_option maxRecDepth 100000
set_option maxHeartbeats 4000000
def ftoldC : Contract := { modes := [.mut, .mut, .ro, .ro, .ro], fn := fun args M => match args, M with
  | [.fn 85 [.mp 0 0], .ms 1 lo1 len1, .int .i64 wh, .int .i64 ru, .int .i64 _], [(0, .obj [.ms 2 lo2 len2]), (1, .row false [.int .u8, .str, .int .i64, .int .i64] zs), (2, .row false [.int .u8] xs)] =>
    some ⟨[fun _ => lo1 () = 0 ∧ len1 () = (fspR (xs ())).1.length ∧ zs () = rsp (fspR (xs ())).1, fun _ => wh () = (fspR (xs ())).2.1 ∧ ru () = (fspR (xs ())).2.2, fun _ => lo2 () = 0 ∧ len2 () = (xs ()).length ∧ (xs ()).length + 64 ≤ big], .bool fun _ => true, []⟩
  | _, _ => none }
theorem fspl_pre {x : List (List D)} : ∀ (f : Nat) (a : Int) (o : List (List D)), ∃ t, (fspl x f a o).1 = o ++ t
  | 0, a, o => ⟨[], by simp [fspl]⟩
  | f + 1, a, o => by
    rw [fspl]
    split
    · split
      · obtain ⟨t, ht⟩ := fspl_pre f (fgetR x a).n (o ++ [plc (fgetR x a) a])
        exact ⟨plc (fgetR x a) a :: t, by rw [ht]; simp⟩
      · exact ⟨[], by simp⟩
    · exact ⟨[], by simp⟩
theorem SpY.pre {x : List (List D)} (s : SpY x) : ∃ t, (fspR x).1 = s.o ++ t := by
  rw [← s.e]
  exact fspl_pre _ _ _
theorem told_same {x : List (List D)} {f : FG} {a : Int} {o t : List (List D)} (h : (fspR x).1 = o ++ ([plc f a] ++ t)) :
    sameP [dall [fun _ => D.int f.k, fun _ => D.list f.p, fun _ => D.int a, fun _ => D.int f.n]] (((rsp (fspR x).1).drop o.length).take 1) = true := by
  have e : ((rsp (fspR x).1).drop o.length).take 1 = [[D.int f.k, D.str (ofRow f.p), D.int a, D.int f.n]] := by
    have hl : (rsp o).length = o.length := rsp_len o
    have : rsp (fspR x).1 = rsp o ++ ([[D.int f.k, D.str (ofRow f.p), D.int a, D.int f.n]] ++ rsp t) := by
      rw [h]; simp [rsp, plc, lk, D.toList]
    rw [this, ← hl, List.drop_left]
    rfl
  rw [e]
  simp [sameP, spOk, dall, lk, D.toInt, D.toList, D.toStr]
theorem sp_last (x : List (List D)) : ∃ z : SpY x, z.o = (fspR x).1 := by
  have go : ∀ (n : Nat) (s : SpY x), s.f ≤ n → ∃ z : SpY x, z.o = (fspR x).1 := by
    intro n
    induction n with
    | zero =>
      intro s hs
      have := s.hf
      have := s.h1
      omega
    | succ n ih =>
      intro s hs
      by_cases h : s.a < (x.length : Int)
      · by_cases hr : (fgetR x s.a).r = 0
        · obtain ⟨y, _, _, hy⟩ := s.next h hr
          exact ih y (by omega)
        · exact ⟨s, by rw [s.bad h hr]⟩
      · exact ⟨s, by rw [s.done h]⟩
  exact go _ ⟨x.length + 1, 0, [], by omega, by omega, by omega, by simp, rfl⟩ (Nat.le_refl _)
def LGtd : List (Nat × Contract) := [(64, fspC), (86, fnextC)]
def Gtd : Ctx := fun f => gget LGtd f
theorem Gtd_ok : ∀ f C, Gtd f = some C → CSound Try.prog f C := gget_cons fsp_ok (gget_cons fnext_ok (gget_nil _))
theorem ftold_ok : CSound Try.prog 65 ftoldC := by
  refine fsoundR (G := Gtd) (FT := FTf) (c := codeOf Try.f65) mixed tyT2 Gtd_ok FTf_ok Try.func65 (by rfl) (by kernel_rfl) (by kernel_rfl) fun args M r hr hvc hw hm => ?_
  unfold ftoldC at hr
  simp only at hr
  split at hr <;> cases hr
  rename_i lo1 len1 wh ru most lo2 len2 zs x
  have hv1 : lo1 () = 0 ∧ len1 () = (fspR (x ())).1.length ∧ zs () = rsp (fspR (x ())).1 := hvc _ List.mem_cons_self
  have hv2 : wh () = (fspR (x ())).2.1 ∧ ru () = (fspR (x ())).2.2 := hvc (fun _ => wh () = (fspR (x ())).2.1 ∧ ru () = (fspR (x ())).2.2) (List.mem_cons_of_mem _ List.mem_cons_self)
  have hv3 : lo2 () = 0 ∧ len2 () = (x ()).length ∧ (x ()).length + 64 ≤ big := hvc (fun _ => lo2 () = 0 ∧ len2 () = (x ()).length ∧ (x ()).length + 64 ≤ big) (List.mem_cons_of_mem _ (List.mem_cons_of_mem _ List.mem_cons_self))
  clear hvc hm hw
  have a1 := hv1.1
  have a2 := hv1.2.1
  have a3 := hv1.2.2
  have a4 := hv2.1
  have a5 := hv2.2
  have a6 := hv3.1
  have a7 := hv3.2.1
  have hb := hv3.2.2
  clear hv1 hv2 hv3
  have hx : lo1 = fun _ => lo1 () := rfl
  generalize lo1 () = q at hx a1
  subst hx a1
  have hx : x = fun _ => x () := rfl
  generalize x () = x at hx a2 a3 a4 a5 a7 hb
  subst hx
  have hx : len1 = fun _ => len1 () := rfl
  generalize len1 () = q at hx a2
  subst hx a2
  have hx : zs = fun _ => zs () := rfl
  generalize zs () = q at hx a3
  subst hx a3
  have hx : wh = fun _ => wh () := rfl
  generalize wh () = q at hx a4
  subst hx a4
  have hx : ru = fun _ => ru () := rfl
  generalize ru () = q at hx a5
  subst hx a5
  have hx : lo2 = fun _ => lo2 () := rfl
  generalize lo2 () = q at hx a6
  subst hx a6
  have hx : len2 = fun _ => len2 () := rfl
  generalize len2 () = q at hx a7
  subst hx a7
  have hx : most = fun _ => most () := rfl
  generalize most () = most at hx
  subst hx
  conv => cbv
  refine .ofF rfl ?_
  conv => cbv
  intro l
  have hl : Nat.beq l l = true := Nat.beq_refl l
  conv at hl => lhs; cbv
  conv => cbv
  refine YLoopP.mk (SpY x) (fun s => ⟨ev 34 [(0, .yl l), (1, .mp 0 0), (3, .mp 99 0)],
    [(0, .obj [.ms 2 (fun _ => 0) fun _ => x.length]), (1, .row false [.int .u8, .str, .int .i64, .int .i64] fun _ => rsp (fspR x).1), (2, .row false U8 fun _ => x), (3, .obj [.ms 1 (fun _ => 0) fun _ => (fspR x).1.length]), (11, .obj [.int .i64 fun _ => (fspR x).2.1]), (19, .obj [.int .i64 fun _ => (fspR x).2.2]), (27, .obj [.int .i64 fun _ => most]), (35, .obj [.bool fun _ => false]), (43, .obj [.int .i64 fun _ => (s.o.length : Int)]), (51, .obj [.bool fun _ => true]), (99, .obj [.int .i64 fun _ => s.a, .ms 2 (fun _ => 0) fun _ => x.length])], 104⟩) (fun s => s.f) ⟨x.length + 1, 0, [], by omega, by omega, by omega, by simp, rfl⟩ rfl ?_ ?_
  · conv => cbv
    rw [hl]
    conv => cbv
    simp [Hold.iff]
  · intro s
    have hs1 := s.h1
    have hs0 := s.h0
    have hso := s.ho
    conv => cbv
    refine .d (fun h => ?_) (fun h => ?_)
    · conv => cbv
      rw [hl]
      conv => cbv
      refine ⟨⟨(by simp [hb])⟩, ?_⟩
      by_cases hr : (fgetR x s.a).r = 0
      · have hf := fgetR_fit hr
        have hn := (s.next h hr).choose_spec
        generalize (s.next h hr).choose = y at hn
        have hna := hn.1
        have hno := hn.2.1
        have hpre := y.pre
        have ⟨t, hL⟩ := hpre
        rw [hno, List.append_assoc] at hL
        have hLl : (fspR x).1.length = s.o.length + 1 + t.length := by rw [hL]; simp; omega
        have hbx : x.length + 64 ≤ 1099511627776 := hb
        have hw1 : IntKind.i64.wrap ((s.o.length : Int) + 1) = ((s.o.length + 1 : Nat) : Int) := by rw [wrap_i64 (by omega)]; omega
        have hP := told_same hL
        have g3 : 0 ≤ (s.o.length : Int) ∧ (s.o.length : Int) ≤ IntKind.i64.wrap ((s.o.length : Int) + 1) ∧ IntKind.i64.wrap ((s.o.length : Int) + 1) ≤ IntKind.i64.wrap ((s.o.length : Int) + 1) ∧ IntKind.i64.wrap ((s.o.length : Int) + 1) ≤ ((fspR x).1.length : Int) := by rw [hw1]; omega
        have g5 : (0 + ((s.o.length : Int)).toNat) + ((IntKind.i64.wrap ((s.o.length : Int) + 1)).toNat - ((s.o.length : Int)).toNat) ≤ (rsp (fspR x).1).length := by rw [hw1, rsp_len]; omega
        have g5e : (0 + ((s.o.length : Int)).toNat) = s.o.length := by omega
        have g5f : ((IntKind.i64.wrap ((s.o.length : Int) + 1)).toNat - ((s.o.length : Int)).toNat) = 1 := by rw [hw1]; omega
        have g5g : ((IntKind.i64.wrap ((s.o.length : Int) + 1)).toNat - s.o.length) = 1 := by rw [hw1]; omega
        have hlL : (fspR x).1.length ≤ x.length := by
          obtain ⟨z, hz⟩ : ∃ z : SpY x, z.o = (fspR x).1 := sp_last x
          rw [← hz]
          have := z.ho
          have := z.h1
          omega
        have g6 : (rsp (fspR x).1).length ≤ big ∧ [dall [fun _ => D.int (fgetR x s.a).k, fun _ => D.list (fgetR x s.a).p, fun _ => D.int s.a, fun _ => D.int (fgetR x s.a).n]].length ≤ big ∧ ∀ i, i < [dall [fun _ => D.int (fgetR x s.a).k, fun _ => D.list (fgetR x s.a).p, fun _ => D.int s.a, fun _ => D.int (fgetR x s.a).n]].length → (lk (lk [dall [fun _ => D.int (fgetR x s.a).k, fun _ => D.list (fgetR x s.a).p, fun _ => D.int s.a, fun _ => D.int (fgetR x s.a).n]] i) 1).toList.length ≤ big := by
          refine ⟨by rw [rsp_len]; omega, by simp [big], fun i hi => ?_⟩
          have hi0 : i = 0 := by simpa using hi
          subst hi0
          show (fgetR x s.a).p.length ≤ big
          have := hf.2.2.2
          omega
        refine .ofT (by simp; omega) ?_
        conv => cbv
        refine .ofT rfl ?_
        conv => cbv
        refine .ofT (by simp [hr]) ?_
        conv => cbv
        refine ⟨⟨rfl⟩, ⟨rfl⟩, ⟨g3⟩, ⟨rfl, rfl⟩, ⟨g5⟩, ⟨g6⟩, ?_⟩
        by_cases hmo : ((s.o.length + 1 : Nat) : Int) = most
        · refine .ofT (by simp [hw1]; exact hmo) ?_
          conv => cbv
          refine .ofT rfl ?_
          conv => cbv
          refine .ofT rfl ?_
          conv => cbv
          simp [Hold.iff, g5e, g5f, g5g, hP]
        · refine .ofF (by simp [hw1]; exact hmo) ?_
          conv => cbv
          refine .ofF rfl ?_
          conv => cbv
          refine .ofF (by simp [hr]) ?_
          conv => cbv
          refine ⟨y, hn.2.2, ?_⟩
          conv => cbv
          rw [hl]
          conv => cbv
          rw [hna, hno]
          simp [Hold.iff, g5e, g5f, g5g, hP]
          exact hw1
      · have hn := s.bad h hr
        have hn2 := fgetR_bad hr
        have hk0 : (fgetR x s.a).k = 0 := by rw [hn2]
        have hp0 : (fgetR x s.a).p = [] := by rw [hn2]
        have hn0 : (fgetR x s.a).n = 0 := by rw [hn2]
        clear hn2
        have hr2 : ¬ (fspR x).2.2 = 0 := by rw [hn]; exact hr
        have hbx : x.length + 64 ≤ 1099511627776 := hb
        have hw1 : IntKind.i64.wrap ((s.o.length : Int) + 1) = ((s.o.length + 1 : Nat) : Int) := by rw [wrap_i64 (by omega)]; omega
        refine .ofF (by simp [hn]) ?_
        conv => cbv
        repeat (first | (refine .ofT ?_ ?_; (focus (first | (simp; done) | (simp [hn]; done) | (simp [hn, hr]; done) | (simp [hn, hk0, hp0, hn0]; done))); conv => cbv))
        by_cases hmo : ((s.o.length + 1 : Nat) : Int) = most
        · refine .ofT (by simp [hw1]; exact hmo) ?_
          conv => cbv
          refine .ofT rfl ?_
          conv => cbv
          refine .ofT rfl ?_
          conv => cbv
          simp [Hold.iff, hn, hr, hk0, hp0, hn0]
        · refine .ofF (by simp [hw1]; exact hmo) ?_
          conv => cbv
          refine .ofF rfl ?_
          conv => cbv
          refine .ofT (by simp [hr]) ?_
          conv => cbv
          refine .ofT (by simp [hr2]) ?_
          conv => cbv
          repeat (first | (refine .ofT ?_ ?_; (focus (first | (simp; done) | (simp [hn]; done) | (simp [hn, hr]; done) | (simp [hn, hk0, hp0, hn0]; done))); conv => cbv))
          simp [Hold.iff, hn]
    · have hn := s.done h
      conv => cbv
      refine .ofF (by simp [hn]) ?_
      conv => cbv
      refine .ofT rfl ?_
      conv => cbv
      simp [Hold.iff, hn]
end Go.Am
/- alibilaw03.FrameGets, of bytes that are the caller's own, keeps its contract: it returns true, and they are what they were. -/
namespace Go.Am
set_option linter.all false
set_option linter.deprecated false
open Go.Proofs
set_option maxRecDepth 100000
set_option maxHeartbeats 4000000
def fgetsC : Contract := { modes := [.mut, .ro], fn := fun args M => match args, M with
  | [.ms 0 lo len, .int .i64 _], [(0, .row false [.int .u8] z)] => some ⟨[fun _ => lo () = 0 ∧ len () ≤ (z ()).length], .bool fun _ => true, [(0, some (.row false U8 z))]⟩
  | _, _ => none }
def LGgs : List (Nat × Contract) := [(20, ownC), (22, sameC), (25, spoilC), (57, trueC), (58, rfsplitC), (59, fallC), (60, fgetC), (61, rfgetC), (62, fconvC), (63, fsplitC3), (64, fspC), (65, ftoldC)]
def Ggs : Ctx := fun f => gget LGgs f
theorem Ggs_ok : ∀ f C, Ggs f = some C → CSound Try.prog f C := gget_cons own_ok (gget_cons same_ok (gget_cons spoil_ok (gget_cons works3_ok (gget_cons rfsplit_ok (gget_cons fall_ok (gget_cons fget_ok (gget_cons rfget_ok (gget_cons fconv_ok (gget_cons fsplit_ok3 (gget_cons fsp_ok (gget_cons ftold_ok (gget_nil _))))))))))))
theorem sameP_rsp (L : List (List D)) : sameP L (rsp L) = true := by
  simp only [sameP, rsp_len, beq_self_eq_true, Bool.true_and, List.all_eq_true, List.mem_range]
  intro i hi
  have e : lk (rsp L) i = [lk (lk L i) 0, D.str (ofRow (lk (lk L i) 1).toList), lk (lk L i) 2, lk (lk L i) 3] := by
    simp [lk, List.getD, rsp, hi]
  rw [e]
  simp [spOk, lk, D.toStr]
theorem fspl_pay {x : List (List D)} : ∀ (f : Nat) (a : Int) (o : List (List D)), (∀ i, i < o.length → (lk (lk o i) 1).toList.length ≤ x.length) → ∀ i, i < (fspl x f a o).1.length → (lk (lk (fspl x f a o).1 i) 1).toList.length ≤ x.length
  | 0, a, o => fun h => h
  | f + 1, a, o => fun h => by
    rw [fspl]
    split
    · split
      · rename_i hr
        refine fspl_pay f _ _ fun i hi => ?_
        by_cases hio : i < o.length
        · have e : lk (o ++ [plc (fgetR x a) a]) i = lk o i := by simp [lk, List.getD, List.getElem?_append_left hio]
          rw [e]; exact h i hio
        · have hi2 : i = o.length := by simp at hi; omega
          have e : lk (o ++ [plc (fgetR x a) a]) i = plc (fgetR x a) a := by subst hi2; simp [lk, List.getD]
          rw [e]
          exact (fgetR_fit hr).2.2.2
      · exact h
    · exact h
theorem fspR_pay (x : List (List D)) (i : Nat) (hi : i < (fspR x).1.length) : (lk (lk (fspR x).1 i) 1).toList.length ≤ x.length :=
  fspl_pay _ _ _ (fun i hi => by simp at hi) i hi
theorem fgets_ok : CSound Try.prog 14 fgetsC := by
  refine fsound' (G := Ggs) (c := codeOf Try.f14) mixed tyT2 Ggs_ok Try.func14 (by rfl) (by kernel_rfl) (by kernel_rfl) fun args M r hr hvc hw hm => ?_
  unfold fgetsC at hr
  simp only at hr
  split at hr <;> cases hr
  rename_i lo len at_ z
  have hb := hvc _ (List.mem_singleton.2 rfl)
  have h1 := hb.1
  have h2 : len () ≤ (z ()).length := hb.2
  clear hvc hm hw hb
  have hx : lo = fun _ => lo () := rfl
  generalize lo () = lo at hx h1
  subst hx h1
  have hx : z = fun _ => z () := rfl
  generalize z () = z at hx h2
  subst hx
  have hx : len = fun _ => len () := rfl
  generalize len () = len at hx h2
  subst hx
  have hx : at_ = fun _ => at_ () := rfl
  generalize at_ () = at_ at hx
  subst hx
  have hxl : (z.take len).length = len := by rw [List.length_take]; omega
  have ht : List.take len (List.drop 0 z) = z.take len := by simp
  have hzz : z.take len ++ z.drop len = z := List.take_append_drop _ _
  conv => cbv
  refine .d (fun h => ?_) (fun h => ?_)
  · conv => cbv
    simp [Hold.iff]
  · have h : ¬ (1500 : Int) < (len : Int) := h
    have hl15 : len ≤ 1500 := by omega
    conv => cbv
    rw [ht]
    generalize hxx : z.take len = x at hxl ht hzz
    subst hxl
    have t0 : List.take x.length (List.drop 0 x) = x := by simp
    have v0 : 0 + x.length ≤ z.length := by omega
    have v1 : x.length ≤ big := by simp only [big]; omega
    have v2 : 0 + x.length ≤ x.length := by omega
    have v3 : 8 * x.length + 1024 ≤ big := by simp only [big]; omega
    have v4 : x.length + 64 ≤ big := by simp only [big]; omega
    have hlL : (fspR x).1.length ≤ x.length := by
      obtain ⟨w, hw⟩ : ∃ w : SpY x, w.o = (fspR x).1 := sp_last x
      rw [← hw]
      have := w.ho
      have := w.h1
      omega
    rw [t0]
    refine ⟨⟨v0⟩, ⟨v1⟩, ⟨v2⟩, ⟨v3⟩, ⟨v0⟩, ⟨v1⟩, ?_⟩
    refine LoopP.mk {i : Nat // i ≤ 2} (fun s => ⟨ev 118 [(0, .ms 0 (fun _ => 0) fun _ => x.length), (1, .int .i64 fun _ => at_), (5, .ms 1 (fun _ => 0) fun _ => x.length), (6, .ms 2 (fun _ => 0) fun _ => (fspR x).1.length), (7, .int .i64 fun _ => (fspR x).2.1), (8, .int .i64 fun _ => (fspR x).2.2), (9, .fn 85 [.mp 3 0]), (10, .int .i64 fun _ => (s.1 : Int))],
      [(0, .row false U8 fun _ => z), (1, .row false U8 fun _ => x), (2, .row false [.int .u8, .str, .int .i64, .int .i64] fun _ => rsp (fspR x).1), (3, .obj [.ms 4 (fun _ => 0) fun _ => x.length]), (4, .row false U8 fun _ => x)], 8⟩) (fun s => 2 - s.1) ⟨0, by omega⟩ ?_ ?_
    · conv => cbv
      simp [Hold.iff]
    · intro s
      have hi := s.2
      conv => cbv
      refine .d (fun h => ?_) (fun h => ?_)
      · have h : (s.1 : Int) < 2 := h
        have hw1 : IntKind.i64.wrap ((s.1 : Int) + 1) = ((s.1 + 1 : Nat) : Int) := by rw [wrap_i64 (by omega)]; omega
        have hn : s.1 + 1 ≤ 2 ∧ 2 - (s.1 + 1) < 2 - s.1 := by omega
        have hS := sameP_rsp (fspR x).1
        have hft : List.take (fspR x).1.length (rsp (fspR x).1) = rsp (fspR x).1 := List.take_of_length_le (by simp)
        have hfp : (fgetR x at_).p.length ≤ x.length := by
          by_cases hr : (fgetR x at_).r = 0
          · exact (fgetR_fit hr).2.2.2
          · rw [fgetR_bad hr]; simp
        have hpay : ∀ i, i < (fspR x).1.length → (lk (lk (fspR x).1 i) 1).toList.length ≤ big := fun i hi => by
          have := fspR_pay x i hi
          omega
        conv => cbv
        rw [ht, t0]
        refine ⟨⟨v0⟩, ⟨v4⟩, ⟨v2⟩, ⟨v3⟩, ?_⟩
        repeat (first | (refine ⟨⟨?_⟩, ?_⟩; (focus (first | (simp; done)))))
        refine .ofF (by simp) ?_
        conv => cbv
        refine .ofF (by simp) ?_
        conv => cbv
        refine .ofF (by simp) ?_
        conv => cbv
        have v5 : x.length ≤ z.length := by omega
        have v6 : 0 + (fspR x).1.length ≤ (rsp (fspR x).1).length := by simp
        have v7 : (rsp (fspR x).1).length ≤ big ∧ (fspR (List.take x.length z)).1.length ≤ big ∧ ∀ i, i < (fspR (List.take x.length z)).1.length → (lk (lk (fspR (List.take x.length z)).1 i) 1).toList.length ≤ big := by
          rw [hxx]
          exact ⟨by rw [rsp_len]; omega, by omega, hpay⟩
        refine ⟨⟨rfl, v5, v4⟩, ?_⟩
        refine .ofF (by simp [hxx]) ?_
        conv => cbv
        refine .ofF (by simp [hxx]) ?_
        conv => cbv
        refine ⟨⟨rfl, rfl⟩, ⟨v6⟩, ⟨v7⟩, ?_⟩
        refine .ofF (by simp [hxx, hS, hft]) ?_
        conv => cbv
        refine ⟨⟨by simp⟩, ?_⟩
        refine ⟨⟨s.1 + 1, hn.1⟩, hn.2, ?_⟩
        conv => cbv
        simp [Hold.iff, hw1]
      · have h : ¬ (s.1 : Int) < 2 := h
        have hft : List.take (fspR x).1.length (rsp (fspR x).1) = rsp (fspR x).1 := List.take_of_length_le (by simp)
        have hsl : (spoil z 0 x.length).length = z.length := by simp [spoil]; omega
        have hsd : List.drop x.length (spoil z 0 x.length) = List.drop x.length z := by simp [spoil]
        have v8 : 0 + x.length ≤ (spoil z 0 x.length).length := by rw [hsl]; exact v0
        conv => cbv
        refine ⟨⟨v2⟩, ⟨v0⟩, ?_⟩
        refine .ofF (by simp [hxx]) ?_
        conv => cbv
        refine ⟨⟨v0⟩, ⟨rfl, rfl, rfl⟩, ⟨rfl, rfl⟩, ⟨rfl, rfl, v4⟩, ?_⟩
        refine .ofT rfl ?_
        conv => cbv
        refine ⟨⟨rfl, rfl, rfl⟩, ⟨rfl, rfl⟩, ⟨rfl, rfl, v4⟩, ?_⟩
        refine ⟨⟨v8⟩, ⟨v2⟩, ?_⟩
        refine .ofT rfl ?_
        conv => cbv
        simp [Hold.iff, hsd, hzz]
end Go.Am
/- frame.Split, of bytes that stay the caller's own, keeps its contract. -/
namespace Go.Am
set_option linter.all false
set_option linter.deprecated false
open Go.Proofs
set_option maxRecDepth 100000
set_option maxHeartbeats 4000000
/-- Split, of bytes that stay the caller's own -/
def fsplitC2 : Contract := { modes := [.mut], fn := fun args M => match args, M with
  | [.sl _ [.int .u8] xs], [] => some ⟨[fun _ => (xs ()).length + 64 ≤ big],
      .tup [.ms 0 (fun _ => 0) fun _ => (fspR (xs ())).1.length, .int .i64 fun _ => (fspR (xs ())).2.1, .int .i64 fun _ => (fspR (xs ())).2.2],
      [(0, some (.row false PlS fun _ => (fspR (xs ())).1))]⟩
  | [.ms 0 lo len], [(0, .row false [.int .u8] xs)] => some ⟨[fun _ => lo () = 0 ∧ len () = (xs ()).length ∧ (xs ()).length + 64 ≤ big],
      .tup [.ms 1 (fun _ => 0) fun _ => (fspR (xs ())).1.length, .int .i64 fun _ => (fspR (xs ())).2.1, .int .i64 fun _ => (fspR (xs ())).2.2],
      [(1, some (.row false PlS fun _ => (fspR (xs ())).1))]⟩
  | _, _ => none }
theorem fsplit_ok2 : CSound Try.prog 63 fsplitC2 := by
  refine fsoundR (G := Gfz) (FT := FTf) (c := codeOf Try.f63) mixed tyT Gfz_ok FTf_ok Try.func63 (by rfl) (by kernel_rfl) (by kernel_rfl) fun args M r hr hvc hw hm => ?_
  unfold fsplitC2 at hr
  simp only at hr
  split at hr <;> cases hr
  · rename_i nn x
    have hb : (x ()).length + 64 ≤ big := hvc _ (List.mem_singleton.2 rfl)
    clear hvc hm hw
    have hx : x = fun _ => x () := rfl
    generalize x () = x at hx hb
    subst hx
    have v1 : x.length ≤ big := by omega
    conv => cbv
    refine ⟨⟨v1⟩, ?_⟩
    intro l
    have hl : Nat.beq l l = true := Nat.beq_refl l
    conv at hl => lhs; cbv
    conv => cbv
    refine YLoopP.mk (SpY x) (fun s => ⟨ev 34 [(0, .yl l), (1, .mp 32 0), (3, .mp 42 0)],
      [(0, .obj [.ms 41 (fun _ => 0) fun _ => s.o.length]), (8, .obj [.int .i64 fun _ => 0]), (16, .obj [.int .i64 fun _ => 0]), (32, .obj [.ms 33 (fun _ => 0) fun _ => x.length]), (33, .row false U8 fun _ => x), (41, .row false PlS fun _ => s.o), (42, .obj [.int .i64 fun _ => s.a, .ms 33 (fun _ => 0) fun _ => x.length])], 48⟩) (fun s => s.f) ⟨x.length + 1, 0, [], by omega, by omega, by omega, by simp, rfl⟩ rfl ?_ ?_
    · conv => cbv
      rw [hl]
      conv => cbv
      simp [Hold.iff]
    · intro s
      have hs1 := s.h1
      have hs0 := s.h0
      have hso := s.ho
      conv => cbv
      refine .d (fun h => ?_) (fun h => ?_)
      · conv => cbv
        rw [hl]
        conv => cbv
        refine ⟨⟨(by simp [hb])⟩, ?_⟩
        by_cases hr : (fgetR x s.a).r = 0
        · refine .ofF (by simp [hr]) ?_
          have hf := fgetR_fit hr
          have hn := (s.next h hr).choose_spec
          generalize (s.next h hr).choose = y at hn
          have hna := hn.1
          have hno := hn.2.1
          conv => cbv
          refine ⟨⟨(by simp)⟩, ?_⟩
          refine ⟨⟨(by simp)⟩, ?_⟩
          refine ⟨⟨(by simp)⟩, ?_⟩
          refine ⟨⟨(by simp; omega)⟩, ?_⟩
          refine ⟨⟨(by simp [chunk])⟩, ?_⟩
          refine .ofF rfl ?_
          conv => cbv
          refine .ofF (by simp [hr]) ?_
          conv => cbv
          refine ⟨y, hn.2.2, ?_⟩
          conv => cbv
          rw [hl]
          conv => cbv
          rw [hna, hno]
          simp [Hold.iff, chunk, plc, dall]
        · refine .ofT (by simp [hr]) ?_
          have hn := s.bad h hr
          have hn2 := fgetR_bad hr
          conv => cbv
          refine .ofT rfl ?_
          conv => cbv
          refine .ofT rfl ?_
          conv => cbv
          rw [hn]
          simp [Hold.iff]
      · have hn := s.done h
        conv => cbv
        rw [hn]
        simp [Hold.iff]
  · rename_i lo len x
    have hb := hvc _ (List.mem_singleton.2 rfl)
    have h1 := hb.1
    have h2 := hb.2.1
    have hb : (x ()).length + 64 ≤ big := hb.2.2
    clear hvc hm hw
    have hx : lo = fun _ => lo () := rfl
    generalize lo () = lo at hx h1
    subst hx h1
    have hx : x = fun _ => x () := rfl
    generalize x () = x at hx hb h2
    subst hx
    have hx : len = fun _ => len () := rfl
    generalize len () = len at hx h2
    subst hx h2
    have v1 : x.length ≤ big := by omega
    have ht : List.take x.length (List.drop 0 x) = x := by simp
    conv => cbv
    rw [ht]
    refine ⟨⟨(by simp)⟩, ⟨v1⟩, ?_⟩
    intro l
    have hl : Nat.beq l l = true := Nat.beq_refl l
    conv at hl => lhs; cbv
    conv => cbv
    refine YLoopP.mk (SpY x) (fun s => ⟨ev 34 [(0, .yl l), (1, .mp 33 0), (3, .mp 43 0)],
      [(0, .row false U8 fun _ => x), (1, .obj [.ms 42 (fun _ => 0) fun _ => s.o.length]), (9, .obj [.int .i64 fun _ => 0]), (17, .obj [.int .i64 fun _ => 0]), (33, .obj [.ms 34 (fun _ => 0) fun _ => x.length]), (34, .row false U8 fun _ => x), (42, .row false PlS fun _ => s.o), (43, .obj [.int .i64 fun _ => s.a, .ms 34 (fun _ => 0) fun _ => x.length])], 48⟩) (fun s => s.f) ⟨x.length + 1, 0, [], by omega, by omega, by omega, by simp, rfl⟩ rfl ?_ ?_
    · conv => cbv
      rw [hl]
      conv => cbv
      simp [Hold.iff]
    · intro s
      have hs1 := s.h1
      have hs0 := s.h0
      have hso := s.ho
      conv => cbv
      refine .d (fun h => ?_) (fun h => ?_)
      · conv => cbv
        rw [hl]
        conv => cbv
        refine ⟨⟨(by simp [hb])⟩, ?_⟩
        by_cases hr : (fgetR x s.a).r = 0
        · refine .ofF (by simp [hr]) ?_
          have hf := fgetR_fit hr
          have hn := (s.next h hr).choose_spec
          generalize (s.next h hr).choose = y at hn
          have hna := hn.1
          have hno := hn.2.1
          conv => cbv
          refine ⟨⟨(by simp)⟩, ?_⟩
          refine ⟨⟨(by simp)⟩, ?_⟩
          refine ⟨⟨(by simp)⟩, ?_⟩
          refine ⟨⟨(by simp; omega)⟩, ?_⟩
          refine ⟨⟨(by simp [chunk])⟩, ?_⟩
          refine .ofF rfl ?_
          conv => cbv
          refine .ofF (by simp [hr]) ?_
          conv => cbv
          refine ⟨y, hn.2.2, ?_⟩
          conv => cbv
          rw [hl]
          conv => cbv
          rw [hna, hno]
          simp [Hold.iff, chunk, plc, dall]
        · refine .ofT (by simp [hr]) ?_
          have hn := s.bad h hr
          have hn2 := fgetR_bad hr
          conv => cbv
          refine .ofT rfl ?_
          conv => cbv
          refine .ofT rfl ?_
          conv => cbv
          rw [hn]
          simp [Hold.iff]
      · have hn := s.done h
        conv => cbv
        rw [hn]
        simp [Hold.iff]
end Go.Am
/- alibilaw03.FrameBack keeps its contract: it returns true. -/
namespace Go.Am
set_option linter.all false
set_option linter.deprecated false
open Go.Proofs
set_option maxRecDepth 100000
set_option maxHeartbeats 4000000
def fbackC : Contract := { modes := [.ro, .ro, .ro, .ro, .ro], fn := fun args M => match args, M with
  | [.sl _ [.int .u8, .slice [.int .u8]] _, .sl _ [.int .u8] _, .int .i64 _, .int .i64 _, .agg [.int .u8 _, .int .u8 _, .int .u8 _, .int .u8 _]], [] => some ⟨[], .bool (fun _ => true), []⟩
  | _, _ => none }
def LGfb : List (Nat × Contract) := [(22, sameC), (32, pickC), (57, trueC), (63, fsplitC2), (66, ffewC), (68, fsizeC), (69, fsameC), (70, fputC)]
def Gfb : Ctx := fun f => gget LGfb f
theorem Gfb_ok : ∀ f C, Gfb f = some C → CSound Try.prog f C := gget_cons same_ok (gget_cons pick_ok (gget_cons works3_ok (gget_cons fsplit_ok2 (gget_cons ffew_ok (gget_cons fsize_ok (gget_cons fsame_ok (gget_cons fput_ok (gget_nil _))))))))
theorem unP_next {y : List (List D)} {i : Nat} (h : i < y.length) : unP (y.take (i + 1)) = unP (y.take i) ++ [[D.int (lk (lk y i) 0).toInt, D.list (lk (lk y i) 1).toList]] := by
  have e : y[i]? = some (lk y i) := by simp [lk, List.getD, h]
  unfold unP
  rw [List.take_add_one, e, List.map_append]
  rfl
theorem c8_frRs {l : List (List D)} (hw : WfR FrS l) (hf : fewF l = true) : WfR U8 (frRs l) := by
  have hlen := frRs_len hw hf
  refine C8.wf (fun c hc => ?_) (by omega)
  rw [frRs, List.mem_flatMap] at hc
  have ⟨d, hd, hc⟩ := hc
  have ⟨i, hi, e⟩ := List.getElem_of_mem hd
  have e2 : lk l i = d := by simp [lk, List.getD, hi, e]
  have h1 := hw.2 i hi
  simp only [WfDs, WfD, and_true, u8_iff] at h1
  have h2 := C8.of (hw.pay hi)
  have h3 := (few_pay hf hi).1
  rw [e2] at h1 h2 h3
  exact c8_frR h1.1 h2 (by omega) c hc
def FbI.zero {x : List (List D)} (hw : WfR U8 x) {q e : Nat} {Y : Nat → Nat} : FbI x q e Y := ⟨0, x, false, by omega, rfl, hw, fun j => by rw [if_neg (by omega)], fun _ _ => rfl, ⟨fun h => (by cases h), fun ⟨m, hm, _⟩ => absurd hm (by omega)⟩, .inl rfl⟩
theorem fb_lk {ys : List Int} (h : ∀ v ∈ ys, 0 ≤ v ∧ v < 256) (m : Nat) : 0 ≤ lk ys m ∧ lk ys m < 256 := by
  by_cases hm : m < ys.length
  · simp only [lk, List.getD, List.getElem?_eq_getElem hm, Option.getD_some]
    exact h _ (List.getElem_mem hm)
  · simp only [lk, List.getD, List.getElem?_eq_none (Nat.le_of_not_lt hm), Option.getD_none]
    decide
theorem fz2 {E q : Nat} (h6 : 6 ≤ E) (h : q < E - 4) : (q : Int) < (E : Int) - 4 := by omega
theorem fz1 {E q : Nat} (h6 : 6 ≤ E) (h : ¬ q < E - 4) : (E : Int) - 4 ≤ (q : Int) := by omega
theorem fb_nat (q i : Nat) : ((q : Int) + (i : Int)).toNat = q + i := by omega
theorem fb_xor {x : List (List D)} {q e : Nat} {ys : List Int} (s : FbI x q e fun m => (lk ys m).toNat) (hy : ∀ v ∈ ys, 0 ≤ v ∧ v < 256) (h : q + s.i < e) (he : e ≤ x.length) :
    ibits .xor .u8 (lk (lk s.o (q + s.i)) 0).toInt (lk ys s.i) = (((bn s.o).getD (q + s.i) 0 ^^^ (lk ys s.i).toNat : Nat) : Int) := by
  have hl := s.hl
  have hk : q + s.i < s.o.length := by omega
  have h1 := fb_lk hy s.i
  have h2 : (bn s.o).getD (q + s.i) 0 < 256 := bn_lt s.ho _ (by simp [List.getD, hk])
  rw [bn_at s.ho hk]
  have e2 : lk ys s.i = ((lk ys s.i).toNat : Int) := by omega
  conv => lhs; rw [e2]
  exact ib_xor8 _ _ h2 (by omega)
theorem fb_end' {l : List (List D)} {k q E B n : Nat} {Y : Nat → Nat} (hE : (frRs (l.take (k + 1))).length = E) (hB : (frRs (l.take k)).length = B) (hn : (lk (lk l k) 1).toList.length = n) (hp : payOk l) (hk : k < l.length) (s : FbI (frRs l) q E Y)
    (hw : WfR U8 (frRs l)) (h1 : E ≤ q + 4 + n) (h3 : s.i = 4 ∨ E ≤ q + s.i) (hc : s.c = true) (h4 : ¬ (q < E - 4 ∧ E - 4 ≤ q + 3)) : (fspR s.o).2 = ((B : Int), 3) := by
  subst hE hB hn
  exact fb_end hp hk s hw h1 h3 hc h4
theorem pick_nat (w : Int) {n : Nat} (h : 0 < n) : ∃ k : Nat, pickS w (n : Int) = (k : Int) ∧ k < n := by
  have h1 := Int.emod_nonneg w (show (n : Int) ≠ 0 by omega)
  have h2 := Int.emod_lt_of_pos w (show (0 : Int) < (n : Int) by omega)
  refine ⟨(w % (n : Int)).toNat, ?_, by omega⟩
  rw [pickS, if_neg (by omega)]
  omega
theorem fback_ok : CSound Try.prog 16 fbackC := by
  refine fsound' (G := Gfb) (c := codeOf Try.f16) mixed tyT Gfb_ok Try.func16 (by rfl) (by kernel_rfl) (by kernel_rfl) fun args M r hr hvc hw hm => ?_
  unfold fbackC at hr
  simp only at hr
  split at hr <;> cases hr
  rename_i n1 l n2 b wh at_ y0 y1 y2 y3
  clear hvc hm
  have hx : l = fun _ => l () := rfl
  generalize l () = l at hx
  subst hx
  have hx : b = fun _ => b () := rfl
  generalize b () = b at hx
  subst hx
  have hx : wh = fun _ => wh () := rfl
  generalize wh () = wh at hx
  subst hx
  have hx : at_ = fun _ => at_ () := rfl
  generalize at_ () = at_ at hx
  subst hx
  have hx : y0 = fun _ => y0 () := rfl
  generalize y0 () = y0 at hx
  subst hx
  have hx : y1 = fun _ => y1 () := rfl
  generalize y1 () = y1 at hx
  subst hx
  have hx : y2 = fun _ => y2 () := rfl
  generalize y2 () = y2 at hx
  subst hx
  have hx : y3 = fun _ => y3 () := rfl
  generalize y3 () = y3 at hx
  subst hx
  simp only [WfVs, WfV, and_true, u8_iff] at hw
  conv => cbv
  by_cases hf : fewF l = true
  · refine .ofF (by simp [hf]) ?_
    conv => cbv
    refine .d (fun h => ?_) (fun h => ?_)
    · conv => cbv
      exact ⟨rfl⟩
    · have hb15 : b.length ≤ 1500 := by
        have h : ¬ (1500 : Int) < (b.length : Int) := h
        omega
      have hpk : payOk l := fun i hi => by
        have h1 := (few_pay hf hi).1
        show (lk (lk l i) 1).toList.length < _
        omega
      have hwf := c8_frRs hw.1 hf
      have hsp := fspR_frRs hpk
      have hlen := frRs_len hw.1 hf
      have hl12 : l.length ≤ 12 := by simp only [fewF, Bool.and_eq_true, decide_eq_true_eq] at hf; exact hf.2
      have ht : List.take (frRs l).length (List.drop 0 (frRs l)) = frRs l := by simp
      have v1 : (frRs l).length + 64 ≤ big := by simp only [big]; omega
      have v2 : 0 + (frRs l).length ≤ (frRs l).length := by omega
      conv => cbv
      rw [hsp]
      refine ⟨⟨v1⟩, ⟨rfl, rfl, v1⟩, ?_⟩
      refine .ofF rfl ?_
      conv => cbv
      refine .ofF (by simp) ?_
      conv => cbv
      refine .ofF (by simp) ?_
      conv => cbv
      refine LoopP.mk {i : Nat // i ≤ l.length} (fun s => ⟨ev 260 [(0, .sl false FrS fun _ => l), (1, .sl false U8 fun _ => b), (2, .int .i64 fun _ => wh), (3, .int .i64 fun _ => at_), (9, .mp 0 0), (10, .bool fun _ => false), (11, .ms 1 (fun _ => 0) fun _ => (frRs l).length), (12, .ms 2 (fun _ => 0) fun _ => l.length), (15, .int .i64 fun _ => (s.1 : Int))],
        [(0, .obj [.int .u8 fun _ => y0, .int .u8 fun _ => y1, .int .u8 fun _ => y2, .int .u8 fun _ => y3]), (1, .row false U8 fun _ => frRs l), (2, .row false PlS fun _ => plS l l.length)], 8⟩) (fun s => l.length - s.1) ⟨0, by omega⟩ ?_ ?_
      · conv => cbv
        simp [Hold.iff]
      · intro s
        have hi := s.2
        conv => cbv
        refine .d (fun h => ?_) (fun h => ?_)
        · have h : (s.1 : Int) < (l.length : Int) := h
          have h4 : s.1 < l.length := by omega
          have v3 : 0 ≤ (s.1 : Int) ∧ (s.1 : Int) < (l.length : Int) := by omega
          have hat := plS_at l h4
          have hw1 : IntKind.i64.wrap ((s.1 : Int) + 1) = ((s.1 + 1 : Nat) : Int) := by rw [wrap_i64 (by omega)]; omega
          have hn : s.1 + 1 ≤ l.length ∧ l.length - (s.1 + 1) < l.length - s.1 := by omega
          have hat0 : (lk (lk (plS l l.length) s.1) 0).toInt = (lk (lk l s.1) 0).toInt := by rw [hat]; rfl
          have hat1 : (lk (lk (plS l l.length) s.1) 1).toList = (lk (lk l s.1) 1).toList := by rw [hat]; rfl
          have hat2 : (lk (lk (plS l l.length) s.1) 2).toInt = ((frRs (l.take s.1)).length : Int) := by rw [hat]; rfl
          have hat3 : (lk (lk (plS l l.length) s.1) 3).toInt = ((frRs (l.take (s.1 + 1))).length : Int) := by rw [hat]; rfl
          have hnx := congrArg List.length (frRs_next h4)
          have hle := frRs_le l (s.1 + 1)
          rw [List.length_append, frR_len] at hnx
          have hq := (few_pay hf h4).1
          have hsz : IntKind.i64.wrap (((frRs (l.take (s.1 + 1))).length : Int) - ((frRs (l.take s.1)).length : Int)) = ((1 + (putB (lk (lk l s.1) 1).toList.length).length + (lk (lk l s.1) 1).toList.length + 4 : Nat) : Int) := by
            rw [wrap_i64 (by omega)]; omega
          conv => cbv
          repeat (first | (refine ⟨⟨?_⟩, ?_⟩; (focus (first | exact v3 | (simp [chunk, big]; done) | (simp [chunk, big]; omega)))))
          refine .ofF (by simp [hat0, hat1]) ?_
          conv => cbv
          repeat (first | (refine ⟨⟨?_⟩, ?_⟩; (focus (first | exact v3 | (simp [chunk, big]; done) | (simp [chunk, big]; omega)))))
          refine .ofF (by simp [hat0, hat1, hat2, hat3]; simpa using hsz) ?_
          conv => cbv
          refine ⟨⟨s.1 + 1, hn.1⟩, hn.2, ?_⟩
          conv => cbv
          simp [Hold.iff, hw1]
        · conv => cbv
          have v4 : b.length + 64 ≤ big := by simp only [big]; omega
          refine ⟨⟨v4⟩, ?_⟩
          by_cases hs : (fspR b).2.2 = 0
          · have hbk := fspR_back hs
            have hy6 := frRs_six (unP (fspR b).1)
            have hyl := congrArg List.length hbk.2
            simp only [bn_len] at hyl
            have hyn : (unP (fspR b).1).length = (fspR b).1.length := by simp [unP]
            refine .ofT (by simp [hs]) ?_
            conv => cbv
            refine LoopP.mk {i : Nat // i ≤ (fspR b).1.length} (fun s => ⟨ev 260 [(0, .sl false FrS fun _ => l), (1, .sl false U8 fun _ => b), (2, .int .i64 fun _ => wh), (3, .int .i64 fun _ => at_), (9, .mp 0 0), (10, .bool fun _ => false), (11, .ms 1 (fun _ => 0) fun _ => (frRs l).length), (12, .ms 2 (fun _ => 0) fun _ => l.length), (16, .ms 3 (fun _ => 0) fun _ => (fspR b).1.length), (17, .int .i64 fun _ => (fspR b).2.1), (19, .ms 4 (fun _ => 0) fun _ => s.1), (20, .int .i64 fun _ => (s.1 : Int))],
              [(0, .obj [.int .u8 fun _ => y0, .int .u8 fun _ => y1, .int .u8 fun _ => y2, .int .u8 fun _ => y3]), (1, .row false U8 fun _ => frRs l), (2, .row false PlS fun _ => plS l l.length), (3, .row false PlS fun _ => (fspR b).1), (4, .row false FrS fun _ => unP ((fspR b).1.take s.1))], 8⟩) (fun s => (fspR b).1.length - s.1) ⟨0, by omega⟩ ?_ ?_
            · conv => cbv
              simp [Hold.iff, unP]
            · intro s
              have hi := s.2
              conv => cbv
              refine .d (fun h => ?_) (fun h => ?_)
              · have h : (s.1 : Int) < ((fspR b).1.length : Int) := h
                have h4 : s.1 < (fspR b).1.length := by omega
                have v5 : 0 ≤ (s.1 : Int) ∧ (s.1 : Int) < ((fspR b).1.length : Int) := by omega
                have hnx := unP_next h4
                have hul : (unP ((fspR b).1.take s.1)).length = s.1 := by simp [unP]; omega
                have htk : List.take s.1 (unP ((fspR b).1.take s.1)) = unP ((fspR b).1.take s.1) := List.take_of_length_le (by omega)
                have hw1 : IntKind.i64.wrap ((s.1 : Int) + 1) = ((s.1 + 1 : Nat) : Int) := by rw [wrap_i64 (by omega)]; omega
                have hn : s.1 + 1 ≤ (fspR b).1.length ∧ (fspR b).1.length - (s.1 + 1) < (fspR b).1.length - s.1 := by omega
                conv => cbv
                repeat (first | (refine ⟨⟨?_⟩, ?_⟩; (focus (first | exact v5 | (simp [chunk, big, hul]; done) | (simp [chunk, big, hul]; omega)))))
                refine ⟨⟨s.1 + 1, hn.1⟩, hn.2, ?_⟩
                conv => cbv
                rw [hnx]
                simp [Hold.iff, hw1, chunk, dall, htk]
              · have h : ¬ (s.1 : Int) < ((fspR b).1.length : Int) := h
                have h4 : s.1 = (fspR b).1.length := by omega
                have htk : List.take s.1 (fspR b).1 = (fspR b).1 := List.take_of_length_le (by omega)
                have hft : List.take s.1 (unP (fspR b).1) = unP (fspR b).1 := List.take_of_length_le (by omega)
                rw [htk]
                conv => cbv
                refine .ofF (by simp [hbk.1]) ?_
                conv => cbv
                repeat (first | (refine ⟨⟨?_⟩, ?_⟩; (focus (first | (simp [chunk, big, hft]; done) | (simp [chunk, big, hft]; omega)))))
                refine .ofF (by simp [hbk.1, hft, hbk.2]) ?_
                conv => cbv
                by_cases hl0 : l.length = 0
                · refine .ofT (by simp [hl0]) ?_
                  conv => cbv
                  exact ⟨rfl⟩
                · refine .ofF (by simpa using hl0) ?_
                  have hkk := pick_nat wh (n := l.length) (by omega)
                  generalize hkd : pickS wh (l.length : Int) = kk at hkk
                  have ⟨k, hk1, hk2⟩ := hkk
                  subst hk1
                  have v5 : (l.length : Int) < 4611686018427387904 := by omega
                  have v6 : 0 ≤ (k : Int) ∧ (k : Int) < (l.length : Int) := by omega
                  have hat := plS_at l hk2
                  have hat1 : (lk (lk (plS l l.length) k) 1).toList = (lk (lk l k) 1).toList := by rw [hat]; rfl
                  have hat2 : (lk (lk (plS l l.length) k) 2).toInt = ((frRs (l.take k)).length : Int) := by rw [hat]; rfl
                  have hat3 : (lk (lk (plS l l.length) k) 3).toInt = ((frRs (l.take (k + 1))).length : Int) := by rw [hat]; rfl
                  have hnx := congrArg List.length (frRs_next hk2)
                  have hle := frRs_le l (k + 1)
                  rw [List.length_append, frR_len] at hnx
                  have hq := (few_pay hf hk2).1
                  have hpl := put1_len 9 (lk (lk l k) 1).toList.length
                  rw [← putB] at hpl
                  generalize hE : (frRs (l.take (k + 1))).length = E at hat3 hnx hle
                  generalize hB : (frRs (l.take k)).length = B at hat2 hnx
                  generalize hn : (lk (lk l k) 1).toList.length = n at hnx hq hpl
                  have hF : IntKind.i64.wrap (IntKind.i64.wrap ((E : Int) - 4) - (n : Int)) = (E : Int) - 4 - (n : Int) := by rw [wrap_i64 (n := (E : Int) - 4) (by omega), wrap_i64 (by omega)]
                  have hG : IntKind.i64.wrap ((E : Int) - ((E : Int) - 4 - (n : Int))) = (n : Int) + 4 := by rw [wrap_i64 (by omega)]; omega
                  have hrr := pick_nat at_ (n := n + 4) (by omega)
                  rw [show ((n + 4 : Nat) : Int) = (n : Int) + 4 by omega] at hrr
                  generalize hrd : pickS at_ ((n : Int) + 4) = rr at hrr
                  have ⟨r, hr1, hr2⟩ := hrr
                  subst hr1
                  have hy : ∀ v ∈ [y0, y1, y2, y3], 0 ≤ v ∧ v < 256 := by
                    have h0 := hw.2.2.2.2
                    intro v hv
                    simp only [List.mem_cons, List.not_mem_nil, or_false] at hv
                    rcases hv with e | e | e | e <;> subst e
                    · exact h0.1
                    · exact h0.2.1
                    · exact h0.2.2.1
                    · exact h0.2.2.2
                  have hY := fb_lk hy
                  have hY256 : ∀ m, (lk [y0, y1, y2, y3] m).toNat < 256 := fun m => by have := hY m; omega
                  have hqe : ∃ q : Nat, q = E - 4 - n + r := ⟨_, rfl⟩
                  have ⟨q, hqd⟩ := hqe
                  have hQ : IntKind.i64.wrap ((E : Int) - 4 - (n : Int) + (r : Int)) = (q : Int) := by rw [wrap_i64 (by omega)]; omega
                  have hqE : q < E := by omega
                  conv => cbv
                  rw [hkd]
                  conv => cbv
                  repeat (first | (refine ⟨⟨?_⟩, ?_⟩; (focus (first | exact v5 | exact v6 | (simp; done) | (simp; omega)))))
                  refine .ofF (by simp [hat2, hat3, hn, hF]; omega) ?_
                  conv => cbv
                  repeat (first | (refine ⟨⟨?_⟩, ?_⟩; (focus (first | exact v5 | exact v6 | (simp; done) | (simp; omega)))))
                  refine .ofF (by simp [hat2, hat3, hn, hF]; omega) ?_
                  conv => cbv
                  repeat (first | (refine ⟨⟨?_⟩, ?_⟩; (focus (first | exact v6 | (simp [hat3, hn, hF, hG]; done) | (simp [hat3, hn, hF, hG]; omega)))))
                  refine LoopP.mk (FbI (frRs l) q E (fun m => (lk [y0, y1, y2, y3] m).toNat)) (fun s => ⟨ev 260 [(0, .sl false FrS fun _ => l), (9, .mp 0 0), (10, .bool fun _ => false), (11, .ms 1 (fun _ => 0) fun _ => (frRs l).length), (12, .ms 2 (fun _ => 0) fun _ => l.length), (21, .int .i64 fun _ => (k : Int)), (23, .int .i64 fun _ => (q : Int)), (24, .bool fun _ => s.c), (25, .int .i64 fun _ => (s.i : Int))],
                    [(0, .obj [.int .u8 fun _ => y0, .int .u8 fun _ => y1, .int .u8 fun _ => y2, .int .u8 fun _ => y3]), (1, .row false U8 fun _ => s.o), (2, .row false PlS fun _ => plS l l.length)], 8⟩) (fun s => 4 - s.i) (FbI.zero hwf) ?_ ?_
                  · conv => cbv
                    simp [Hold.iff, FbI.zero, hat3, hn, hF, hG, hrd, hQ]
                  · intro s
                    have hsi := s.hi
                    have hsl := s.hl
                    conv => cbv
                    refine .d (fun h => ?_) (fun h => ?_)
                    · have h : (s.i : Int) < 4 := h
                      have h4 : s.i < 4 := by omega
                      have w1 : IntKind.i64.wrap ((q : Int) + (s.i : Int)) = (q : Int) + (s.i : Int) := by rw [wrap_i64 (by omega)]
                      conv => cbv
                      repeat (first | (refine ⟨⟨?_⟩, ?_⟩; (focus (first | exact v6 | (simp; done) | (simp; omega)))))
                      by_cases hqi : q + s.i < E
                      · have hnx2 := s.next hY256 (by omega) h4 hqi
                        have hns := hnx2.choose_spec
                        generalize hnx2.choose = s2 at hns
                        have hn1 := hns.1
                        have hn2 := hns.2.1
                        have hn3 := hns.2.2
                        clear hnx2
                        have w2 : IntKind.i64.wrap ((s.i : Int) + 1) = (s2.i : Int) := by rw [hn1, wrap_i64 (by omega)]; omega
                        have hlt : 4 - s2.i < 4 - s.i := by omega
                        have hx8 := fb_xor s hy hqi (by omega)
                        have hYi : ((lk [y0, y1, y2, y3] s.i).toNat = 0) = (lk [y0, y1, y2, y3] s.i = 0) := by
                          have := hY s.i
                          rw [eq_iff_iff]; omega
                        have g1 : 0 ≤ IntKind.i64.wrap ((q : Int) + (s.i : Int)) ∧ IntKind.i64.wrap ((q : Int) + (s.i : Int)) < ((frRs l).length : Int) := by rw [w1]; omega
                        have g2 : 0 + (IntKind.i64.wrap ((q : Int) + (s.i : Int))).toNat < s.o.length := by rw [w1]; omega
                        have g3 : 0 ≤ (s.i : Int) ∧ (s.i : Int) < ((4 : Nat) : Int) := by omega
                        have g4 : ((s.i : Int)).toNat < 4 := by omega
                        have g5 : 0 + (IntKind.i64.wrap ((q : Int) + (s.i : Int))).toNat < (s.o.set (0 + (IntKind.i64.wrap ((q : Int) + (s.i : Int))).toNat) [D.int 0]).length := by rw [List.length_set]; exact g2
                        refine .ofT (by simp [w1, hat3]; omega) ?_
                        conv => cbv
                        repeat (first | (refine ⟨⟨?_⟩, ?_⟩; (focus (first | exact g1 | exact g2 | exact g3 | exact g4 | exact g5))))
                        by_cases hc : s.c = true
                        · refine .ofT (by simp [hc]) ?_
                          conv => cbv
                          refine ⟨s2, hlt, ?_⟩
                          conv => cbv
                          simp [Hold.iff, w2, hn2, hn3, hc, w1, hx8, fb_nat]
                        · refine .ofF (by simp [hc]) ?_
                          conv => cbv
                          repeat (first | (refine ⟨⟨?_⟩, ?_⟩; (focus (first | (simp [w1]; done) | (simp [w1]; omega)))))
                          refine ⟨s2, hlt, ?_⟩
                          conv => cbv
                          simp [Hold.iff, w2, hn2, hn3, hc, w1, hx8, hYi, fb_nat]
                          try rfl
                      · refine .ofF (by simp [w1, hat3]; omega) ?_
                        conv => cbv
                        have h3 : s.i = 4 ∨ E ≤ q + s.i := by omega
                        have hend := fun hc h4 => fb_end' hE hB hn hpk hk2 s hwf (by omega) h3 hc h4
                        have h6 : 6 ≤ E := by omega
                        have w4 : IntKind.i64.wrap ((E : Int) - 4) = (E : Int) - 4 := by rw [wrap_i64 (by omega)]
                        have w5 : IntKind.i64.wrap ((q : Int) + 3) = (q : Int) + 3 := by rw [wrap_i64 (by omega)]
                        have v7 : s.o.length + 64 ≤ big := by simp only [big]; omega
                        by_cases hc : s.c = true
                        · refine .ofF (by simp [hc]) ?_
                          conv => cbv
                          repeat (first | (refine ⟨⟨?_⟩, ?_⟩; (focus (first | exact v6 | (simp; done) | (simp; omega)))))
                          by_cases hq1 : q < E - 4
                          · refine .ofT (by simp [hat3, w4]; exact fz2 h6 hq1) ?_
                            conv => cbv
                            repeat (first | (refine ⟨⟨?_⟩, ?_⟩; (focus (first | exact v6 | (simp; done) | (simp; omega)))))
                            by_cases hq2 : E - 4 ≤ q + 3
                            · refine .ofT (by simp [hat3, w4, w5]; omega) ?_
                              conv => cbv
                              exact ⟨rfl⟩
                            · refine .ofF (by simp [hat3, w4, w5]; omega) ?_
                              have hend := hend hc (by omega)
                              conv => cbv
                              repeat (first | (refine ⟨⟨?_⟩, ?_⟩; (focus (first | exact ⟨rfl, hsl.symm, v7⟩ | exact v6 | (simp; done) | (simp; omega)))))
                              refine .ofT (by simp [hend, hat2]) ?_
                              conv => cbv
                              refine .ofT (by simp [hend]) ?_
                              conv => cbv
                              exact ⟨rfl⟩
                          · refine .ofF (by simp [hat3, w4]; exact fz1 h6 hq1) ?_
                            conv => cbv
                            refine .ofF rfl ?_
                            have hend := hend hc (by omega)
                            conv => cbv
                            repeat (first | (refine ⟨⟨?_⟩, ?_⟩; (focus (first | exact ⟨rfl, hsl.symm, v7⟩ | exact v6 | (simp; done) | (simp; omega)))))
                            refine .ofT (by simp [hend, hat2]) ?_
                            conv => cbv
                            refine .ofT (by simp [hend]) ?_
                            conv => cbv
                            exact ⟨rfl⟩
                        · refine .ofT (by simp [hc]) ?_
                          conv => cbv
                          refine .ofT rfl ?_
                          conv => cbv
                          exact ⟨rfl⟩
                    · have h : ¬ (s.i : Int) < 4 := h
                      have h3 : s.i = 4 ∨ E ≤ q + s.i := by omega
                      conv => cbv
                      refine .ofF rfl ?_
                      conv => cbv
                      have hend := fun hc h4 => fb_end' hE hB hn hpk hk2 s hwf (by omega) h3 hc h4
                      have h6 : 6 ≤ E := by omega
                      have w4 : IntKind.i64.wrap ((E : Int) - 4) = (E : Int) - 4 := by rw [wrap_i64 (by omega)]
                      have w5 : IntKind.i64.wrap ((q : Int) + 3) = (q : Int) + 3 := by rw [wrap_i64 (by omega)]
                      have v7 : s.o.length + 64 ≤ big := by simp only [big]; omega
                      by_cases hc : s.c = true
                      · refine .ofF (by simp [hc]) ?_
                        conv => cbv
                        repeat (first | (refine ⟨⟨?_⟩, ?_⟩; (focus (first | exact v6 | (simp; done) | (simp; omega)))))
                        by_cases hq1 : q < E - 4
                        · refine .ofT (by simp [hat3, w4]; exact fz2 h6 hq1) ?_
                          conv => cbv
                          repeat (first | (refine ⟨⟨?_⟩, ?_⟩; (focus (first | exact v6 | (simp; done) | (simp; omega)))))
                          by_cases hq2 : E - 4 ≤ q + 3
                          · refine .ofT (by simp [hat3, w4, w5]; omega) ?_
                            conv => cbv
                            exact ⟨rfl⟩
                          · refine .ofF (by simp [hat3, w4, w5]; omega) ?_
                            have hend := hend hc (by omega)
                            conv => cbv
                            repeat (first | (refine ⟨⟨?_⟩, ?_⟩; (focus (first | exact ⟨rfl, hsl.symm, v7⟩ | exact v6 | (simp; done) | (simp; omega)))))
                            refine .ofT (by simp [hend, hat2]) ?_
                            conv => cbv
                            refine .ofT (by simp [hend]) ?_
                            conv => cbv
                            exact ⟨rfl⟩
                        · refine .ofF (by simp [hat3, w4]; exact fz1 h6 hq1) ?_
                          conv => cbv
                          refine .ofF rfl ?_
                          have hend := hend hc (by omega)
                          conv => cbv
                          repeat (first | (refine ⟨⟨?_⟩, ?_⟩; (focus (first | exact ⟨rfl, hsl.symm, v7⟩ | exact v6 | (simp; done) | (simp; omega)))))
                          refine .ofT (by simp [hend, hat2]) ?_
                          conv => cbv
                          refine .ofT (by simp [hend]) ?_
                          conv => cbv
                          exact ⟨rfl⟩
                      · refine .ofT (by simp [hc]) ?_
                        conv => cbv
                        refine .ofT rfl ?_
                        conv => cbv
                        exact ⟨rfl⟩
          · refine .ofF (by simp [hs]) ?_
            conv => cbv
            by_cases hl0 : l.length = 0
            · refine .ofT (by simp [hl0]) ?_
              conv => cbv
              exact ⟨rfl⟩
            · refine .ofF (by simpa using hl0) ?_
              have hkk := pick_nat wh (n := l.length) (by omega)
              generalize hkd : pickS wh (l.length : Int) = kk at hkk
              have ⟨k, hk1, hk2⟩ := hkk
              subst hk1
              have v5 : (l.length : Int) < 4611686018427387904 := by omega
              have v6 : 0 ≤ (k : Int) ∧ (k : Int) < (l.length : Int) := by omega
              have hat := plS_at l hk2
              have hat1 : (lk (lk (plS l l.length) k) 1).toList = (lk (lk l k) 1).toList := by rw [hat]; rfl
              have hat2 : (lk (lk (plS l l.length) k) 2).toInt = ((frRs (l.take k)).length : Int) := by rw [hat]; rfl
              have hat3 : (lk (lk (plS l l.length) k) 3).toInt = ((frRs (l.take (k + 1))).length : Int) := by rw [hat]; rfl
              have hnx := congrArg List.length (frRs_next hk2)
              have hle := frRs_le l (k + 1)
              rw [List.length_append, frR_len] at hnx
              have hq := (few_pay hf hk2).1
              have hpl := put1_len 9 (lk (lk l k) 1).toList.length
              rw [← putB] at hpl
              generalize hE : (frRs (l.take (k + 1))).length = E at hat3 hnx hle
              generalize hB : (frRs (l.take k)).length = B at hat2 hnx
              generalize hn : (lk (lk l k) 1).toList.length = n at hnx hq hpl
              have hF : IntKind.i64.wrap (IntKind.i64.wrap ((E : Int) - 4) - (n : Int)) = (E : Int) - 4 - (n : Int) := by rw [wrap_i64 (n := (E : Int) - 4) (by omega), wrap_i64 (by omega)]
              have hG : IntKind.i64.wrap ((E : Int) - ((E : Int) - 4 - (n : Int))) = (n : Int) + 4 := by rw [wrap_i64 (by omega)]; omega
              have hrr := pick_nat at_ (n := n + 4) (by omega)
              rw [show ((n + 4 : Nat) : Int) = (n : Int) + 4 by omega] at hrr
              generalize hrd : pickS at_ ((n : Int) + 4) = rr at hrr
              have ⟨r, hr1, hr2⟩ := hrr
              subst hr1
              have hy : ∀ v ∈ [y0, y1, y2, y3], 0 ≤ v ∧ v < 256 := by
                have h0 := hw.2.2.2.2
                intro v hv
                simp only [List.mem_cons, List.not_mem_nil, or_false] at hv
                rcases hv with e | e | e | e <;> subst e
                · exact h0.1
                · exact h0.2.1
                · exact h0.2.2.1
                · exact h0.2.2.2
              have hY := fb_lk hy
              have hY256 : ∀ m, (lk [y0, y1, y2, y3] m).toNat < 256 := fun m => by have := hY m; omega
              have hqe : ∃ q : Nat, q = E - 4 - n + r := ⟨_, rfl⟩
              have ⟨q, hqd⟩ := hqe
              have hQ : IntKind.i64.wrap ((E : Int) - 4 - (n : Int) + (r : Int)) = (q : Int) := by rw [wrap_i64 (by omega)]; omega
              have hqE : q < E := by omega
              conv => cbv
              rw [hkd]
              conv => cbv
              repeat (first | (refine ⟨⟨?_⟩, ?_⟩; (focus (first | exact v5 | exact v6 | (simp; done) | (simp; omega)))))
              refine .ofF (by simp [hat2, hat3, hn, hF]; omega) ?_
              conv => cbv
              repeat (first | (refine ⟨⟨?_⟩, ?_⟩; (focus (first | exact v5 | exact v6 | (simp; done) | (simp; omega)))))
              refine .ofF (by simp [hat2, hat3, hn, hF]; omega) ?_
              conv => cbv
              repeat (first | (refine ⟨⟨?_⟩, ?_⟩; (focus (first | exact v6 | (simp [hat3, hn, hF, hG]; done) | (simp [hat3, hn, hF, hG]; omega)))))
              refine LoopP.mk (FbI (frRs l) q E (fun m => (lk [y0, y1, y2, y3] m).toNat)) (fun s => ⟨ev 260 [(0, .sl false FrS fun _ => l), (9, .mp 0 0), (10, .bool fun _ => false), (11, .ms 1 (fun _ => 0) fun _ => (frRs l).length), (12, .ms 2 (fun _ => 0) fun _ => l.length), (21, .int .i64 fun _ => (k : Int)), (23, .int .i64 fun _ => (q : Int)), (24, .bool fun _ => s.c), (25, .int .i64 fun _ => (s.i : Int))],
                [(0, .obj [.int .u8 fun _ => y0, .int .u8 fun _ => y1, .int .u8 fun _ => y2, .int .u8 fun _ => y3]), (1, .row false U8 fun _ => s.o), (2, .row false PlS fun _ => plS l l.length)], 8⟩) (fun s => 4 - s.i) (FbI.zero hwf) ?_ ?_
              · conv => cbv
                simp [Hold.iff, FbI.zero, hat3, hn, hF, hG, hrd, hQ]
              · intro s
                have hsi := s.hi
                have hsl := s.hl
                conv => cbv
                refine .d (fun h => ?_) (fun h => ?_)
                · have h : (s.i : Int) < 4 := h
                  have h4 : s.i < 4 := by omega
                  have w1 : IntKind.i64.wrap ((q : Int) + (s.i : Int)) = (q : Int) + (s.i : Int) := by rw [wrap_i64 (by omega)]
                  conv => cbv
                  repeat (first | (refine ⟨⟨?_⟩, ?_⟩; (focus (first | exact v6 | (simp; done) | (simp; omega)))))
                  by_cases hqi : q + s.i < E
                  · have hnx2 := s.next hY256 (by omega) h4 hqi
                    have hns := hnx2.choose_spec
                    generalize hnx2.choose = s2 at hns
                    have hn1 := hns.1
                    have hn2 := hns.2.1
                    have hn3 := hns.2.2
                    clear hnx2
                    have w2 : IntKind.i64.wrap ((s.i : Int) + 1) = (s2.i : Int) := by rw [hn1, wrap_i64 (by omega)]; omega
                    have hlt : 4 - s2.i < 4 - s.i := by omega
                    have hx8 := fb_xor s hy hqi (by omega)
                    have hYi : ((lk [y0, y1, y2, y3] s.i).toNat = 0) = (lk [y0, y1, y2, y3] s.i = 0) := by
                      have := hY s.i
                      rw [eq_iff_iff]; omega
                    have g1 : 0 ≤ IntKind.i64.wrap ((q : Int) + (s.i : Int)) ∧ IntKind.i64.wrap ((q : Int) + (s.i : Int)) < ((frRs l).length : Int) := by rw [w1]; omega
                    have g2 : 0 + (IntKind.i64.wrap ((q : Int) + (s.i : Int))).toNat < s.o.length := by rw [w1]; omega
                    have g3 : 0 ≤ (s.i : Int) ∧ (s.i : Int) < ((4 : Nat) : Int) := by omega
                    have g4 : ((s.i : Int)).toNat < 4 := by omega
                    have g5 : 0 + (IntKind.i64.wrap ((q : Int) + (s.i : Int))).toNat < (s.o.set (0 + (IntKind.i64.wrap ((q : Int) + (s.i : Int))).toNat) [D.int 0]).length := by rw [List.length_set]; exact g2
                    refine .ofT (by simp [w1, hat3]; omega) ?_
                    conv => cbv
                    repeat (first | (refine ⟨⟨?_⟩, ?_⟩; (focus (first | exact g1 | exact g2 | exact g3 | exact g4 | exact g5))))
                    by_cases hc : s.c = true
                    · refine .ofT (by simp [hc]) ?_
                      conv => cbv
                      refine ⟨s2, hlt, ?_⟩
                      conv => cbv
                      simp [Hold.iff, w2, hn2, hn3, hc, w1, hx8, fb_nat]
                    · refine .ofF (by simp [hc]) ?_
                      conv => cbv
                      repeat (first | (refine ⟨⟨?_⟩, ?_⟩; (focus (first | (simp [w1]; done) | (simp [w1]; omega)))))
                      refine ⟨s2, hlt, ?_⟩
                      conv => cbv
                      simp [Hold.iff, w2, hn2, hn3, hc, w1, hx8, hYi, fb_nat]
                      try rfl
                  · refine .ofF (by simp [w1, hat3]; omega) ?_
                    conv => cbv
                    have h3 : s.i = 4 ∨ E ≤ q + s.i := by omega
                    have hend := fun hc h4 => fb_end' hE hB hn hpk hk2 s hwf (by omega) h3 hc h4
                    have h6 : 6 ≤ E := by omega
                    have w4 : IntKind.i64.wrap ((E : Int) - 4) = (E : Int) - 4 := by rw [wrap_i64 (by omega)]
                    have w5 : IntKind.i64.wrap ((q : Int) + 3) = (q : Int) + 3 := by rw [wrap_i64 (by omega)]
                    have v7 : s.o.length + 64 ≤ big := by simp only [big]; omega
                    by_cases hc : s.c = true
                    · refine .ofF (by simp [hc]) ?_
                      conv => cbv
                      repeat (first | (refine ⟨⟨?_⟩, ?_⟩; (focus (first | exact v6 | (simp; done) | (simp; omega)))))
                      by_cases hq1 : q < E - 4
                      · refine .ofT (by simp [hat3, w4]; exact fz2 h6 hq1) ?_
                        conv => cbv
                        repeat (first | (refine ⟨⟨?_⟩, ?_⟩; (focus (first | exact v6 | (simp; done) | (simp; omega)))))
                        by_cases hq2 : E - 4 ≤ q + 3
                        · refine .ofT (by simp [hat3, w4, w5]; omega) ?_
                          conv => cbv
                          exact ⟨rfl⟩
                        · refine .ofF (by simp [hat3, w4, w5]; omega) ?_
                          have hend := hend hc (by omega)
                          conv => cbv
                          repeat (first | (refine ⟨⟨?_⟩, ?_⟩; (focus (first | exact ⟨rfl, hsl.symm, v7⟩ | exact v6 | (simp; done) | (simp; omega)))))
                          refine .ofT (by simp [hend, hat2]) ?_
                          conv => cbv
                          refine .ofT (by simp [hend]) ?_
                          conv => cbv
                          exact ⟨rfl⟩
                      · refine .ofF (by simp [hat3, w4]; exact fz1 h6 hq1) ?_
                        conv => cbv
                        refine .ofF rfl ?_
                        have hend := hend hc (by omega)
                        conv => cbv
                        repeat (first | (refine ⟨⟨?_⟩, ?_⟩; (focus (first | exact ⟨rfl, hsl.symm, v7⟩ | exact v6 | (simp; done) | (simp; omega)))))
                        refine .ofT (by simp [hend, hat2]) ?_
                        conv => cbv
                        refine .ofT (by simp [hend]) ?_
                        conv => cbv
                        exact ⟨rfl⟩
                    · refine .ofT (by simp [hc]) ?_
                      conv => cbv
                      refine .ofT rfl ?_
                      conv => cbv
                      exact ⟨rfl⟩
                · have h : ¬ (s.i : Int) < 4 := h
                  have h3 : s.i = 4 ∨ E ≤ q + s.i := by omega
                  conv => cbv
                  refine .ofF rfl ?_
                  conv => cbv
                  have hend := fun hc h4 => fb_end' hE hB hn hpk hk2 s hwf (by omega) h3 hc h4
                  have h6 : 6 ≤ E := by omega
                  have w4 : IntKind.i64.wrap ((E : Int) - 4) = (E : Int) - 4 := by rw [wrap_i64 (by omega)]
                  have w5 : IntKind.i64.wrap ((q : Int) + 3) = (q : Int) + 3 := by rw [wrap_i64 (by omega)]
                  have v7 : s.o.length + 64 ≤ big := by simp only [big]; omega
                  by_cases hc : s.c = true
                  · refine .ofF (by simp [hc]) ?_
                    conv => cbv
                    repeat (first | (refine ⟨⟨?_⟩, ?_⟩; (focus (first | exact v6 | (simp; done) | (simp; omega)))))
                    by_cases hq1 : q < E - 4
                    · refine .ofT (by simp [hat3, w4]; exact fz2 h6 hq1) ?_
                      conv => cbv
                      repeat (first | (refine ⟨⟨?_⟩, ?_⟩; (focus (first | exact v6 | (simp; done) | (simp; omega)))))
                      by_cases hq2 : E - 4 ≤ q + 3
                      · refine .ofT (by simp [hat3, w4, w5]; omega) ?_
                        conv => cbv
                        exact ⟨rfl⟩
                      · refine .ofF (by simp [hat3, w4, w5]; omega) ?_
                        have hend := hend hc (by omega)
                        conv => cbv
                        repeat (first | (refine ⟨⟨?_⟩, ?_⟩; (focus (first | exact ⟨rfl, hsl.symm, v7⟩ | exact v6 | (simp; done) | (simp; omega)))))
                        refine .ofT (by simp [hend, hat2]) ?_
                        conv => cbv
                        refine .ofT (by simp [hend]) ?_
                        conv => cbv
                        exact ⟨rfl⟩
                    · refine .ofF (by simp [hat3, w4]; exact fz1 h6 hq1) ?_
                      conv => cbv
                      refine .ofF rfl ?_
                      have hend := hend hc (by omega)
                      conv => cbv
                      repeat (first | (refine ⟨⟨?_⟩, ?_⟩; (focus (first | exact ⟨rfl, hsl.symm, v7⟩ | exact v6 | (simp; done) | (simp; omega)))))
                      refine .ofT (by simp [hend, hat2]) ?_
                      conv => cbv
                      refine .ofT (by simp [hend]) ?_
                      conv => cbv
                      exact ⟨rfl⟩
                  · refine .ofT (by simp [hc]) ?_
                    conv => cbv
                    refine .ofT rfl ?_
                    conv => cbv
                    exact ⟨rfl⟩
  · refine .ofT (by simp [hf]) ?_
    conv => cbv
    refine .ofT rfl ?_
    conv => cbv
    exact ⟨rfl⟩
end Go.Am
/- alibilaw03.FrameKnown keeps its contract: it returns true. -/
namespace Go.Am
set_option linter.all false
set_option linter.deprecated false
open Go.Proofs
set_option maxRecDepth 100000
set_option maxHeartbeats 4000000
def fputsC2 : Contract := { modes := [.ro, .ro], fn := fun args M => match args, M with
  | [.sl _ [.int .u8, .slice [.int .u8]] _, .agg [.int .u8 _, .nils]], [] => some ⟨[], .bool (fun _ => true), []⟩
  | _, _ => none }
theorem fputs_ok2 : CSound Try.prog 15 fputsC2 := by
  refine csound_weak fputs_ok fun args M r hr hvc hw => ?_
  unfold fputsC2 at hr
  simp only at hr
  split at hr <;> cases hr
  rename_i nn x k
  refine ⟨[.sl nn [.int .u8, .slice [.int .u8]] x, .agg [.int .u8 k, .sl false U8 fun _ => []]], _, rfl, by simp, rfl, rfl, fun w I σ vs h => ?_⟩
  simp only [VRs, VR] at h ⊢
  obtain ⟨u1, us1, rfl, h1, u2, us2, rfl, ⟨us, rfl, h2⟩, rfl⟩ := h
  obtain ⟨u3, us3, e3, h3, u4, us4, rfl, h4, rfl⟩ := h2
  refine ⟨u1, _, rfl, h1, _, _, rfl, ⟨us, rfl, u3, _, e3, h3, u4, _, rfl, ?_, rfl⟩, rfl⟩
  have := nils_sl (w := w) (I := I) (σ := σ) (e := U8) (v := u4) (by decide) (by simp only [VR]; exact h4)
  simpa only [VR] using this
def fbackC2 : Contract := { modes := [.ro, .ro, .ro, .ro, .ro], fn := fun args M => match args, M with
  | [.nils, .sl _ [.int .u8] _, .int .i64 _, .int .i64 _, .agg [.int .u8 _, .int .u8 _, .int .u8 _, .int .u8 _]], [] => some ⟨[], .bool (fun _ => true), []⟩
  | [.sl _ [.int .u8, .slice [.int .u8]] _, .sl _ [.int .u8] _, .int .i64 _, .int .i64 _, .agg [.int .u8 _, .int .u8 _, .int .u8 _, .int .u8 _]], [] => some ⟨[], .bool (fun _ => true), []⟩
  | _, _ => none }
theorem fback_ok2 : CSound Try.prog 16 fbackC2 := by
  refine csound_weak fback_ok fun args M r hr hvc hw => ?_
  unfold fbackC2 at hr
  simp only at hr
  split at hr <;> cases hr
  · rename_i nn b i j y0 y1 y2 y3
    refine ⟨[.sl false [.int .u8, .slice [.int .u8]] fun _ => [], .sl nn [.int .u8] b, .int .i64 i, .int .i64 j, .agg [.int .u8 y0, .int .u8 y1, .int .u8 y2, .int .u8 y3]], _, rfl, by simp, rfl, rfl, fun w I σ vs h => ?_⟩
    rw [VRs] at h ⊢
    obtain ⟨u1, us1, rfl, h1, h⟩ := h
    exact ⟨u1, us1, rfl, nils_sl (by decide) h1, h⟩
  · exact ⟨_, _, rfl, hvc, rfl, rfl, fun w I σ vs h => h⟩
def fgetsC2 : Contract := { modes := [.mut, .ro], fn := fun args M => match args, M with
  | [.ms 0 lo len, .int .i64 _], [(0, .row _ [.int .u8] z)] => some ⟨[fun _ => lo () = 0 ∧ len () ≤ (z ()).length], .bool fun _ => true, [(0, some (.row false U8 z))]⟩
  | _, _ => none }
theorem own_nn {σ : Sig} {z : Unit → List (List D)} {b : Nat} {n1 n2 : Bool} (h : Owned σ [(0, .row n1 [.int .u8] z)] b) : Owned σ [(0, .row n2 [.int .u8] z)] b := by
  obtain ⟨k, o, p, hk, ho, hs, hf⟩ := h
  simp only [mget] at hk
  split at hk <;> (try (cases hk; done))
  rename_i hb
  have hb := Nat.eq_of_beq_eq_true hb
  subst hb
  cases hk
  exact ⟨0, _, p, rfl, trivial, hs, hf⟩
theorem fgets_ok2 : CSound Try.prog 14 fgetsC2 := by
  refine ⟨fun args M r hr hvc => ?_, fun args M r hr => by cases hr⟩
  unfold fgetsC2 at hr
  simp only at hr
  split at hr <;> cases hr
  rename_i lo len at_ nn z
  have hT := fgets_ok.det [.ms 0 lo len, .int .i64 at_] [(0, .row false [.int .u8] z)] _ rfl hvc
  intro w I σ vs hok hfree hargs
  have hok2 : Ok w I σ [(0, .row false [.int .u8] z)] := by
    refine ⟨hok.lt, fun k o hk => ?_, fun b hb => hok.sep b (own_nn hb), fun k k' o o' _ _ _ hk hk' _ _ _ _ _ _ => ?_⟩
    · simp only [mget] at hk
      split at hk <;> (try (cases hk; done))
      rename_i hb
      have hb := Nat.eq_of_beq_eq_true hb
      subst hb
      cases hk
      obtain ⟨p, hp, ho⟩ := hok.obj 0 _ rfl
      refine ⟨p, hp, ?_⟩
      cases p with
      | none => exact ⟨rfl, ho.2⟩
      | some p => exact ⟨ho.1, fun h => by cases h⟩
    · simp only [mget] at hk hk'
      split at hk <;> (try (cases hk; done))
      rename_i hb
      split at hk' <;> (try (cases hk'; done))
      rename_i hb'
      rw [← Nat.eq_of_beq_eq_true hb, ← Nat.eq_of_beq_eq_true hb']
  refine (hT w I σ vs hok2 hfree hargs).mono fun v w' hq => ?_
  obtain ⟨I', σ', q1, q2, q3⟩ := hq
  exact ⟨I', σ', q1, q2, ⟨q3.os, q3.tape, q3.output, q3.size, fun b hb hn => q3.blk b hb fun ho => hn (own_nn ho), q3.mono, fun b hb => (q3.fresh b hb).imp id fun h => h.imp own_nn id, fun b hb => (q3.own b hb).imp own_nn id, q3.sig⟩⟩
def LGkn : List (Nat × Contract) := [(14, fgetsC2), (15, fputsC2), (16, fbackC2), (20, ownC), (57, trueC), (62, fconvC), (67, frputC)]
def Gkn : Ctx := fun f => gget LGkn f
theorem Gkn_ok : ∀ f C, Gkn f = some C → CSound Try.prog f C := gget_cons fgets_ok2 (gget_cons fputs_ok2 (gget_cons fback_ok2 (gget_cons own_ok (gget_cons works3_ok (gget_cons fconv_ok (gget_cons frput_ok (gget_nil _)))))))
/-- frames so far -/
structure KnF where
  n : Nat
  k : Int
  xs : List (List D)
  h1 : xs.length = n
  h2 : n ≤ 4
  h3 : 0 ≤ k
  h4 : k < 100003
  h5 : ∀ j, j < n → (lk (lk xs j) 1).toList.length ≤ 140
theorem kn_div (r : Nat) (h : r < 4) : ∃ d : Nat, (lk (lk (List.map dall (chunk 1 4 [fun _ => D.int 3, fun _ => D.int 140, fun _ => D.int 9, fun _ => D.int 30])) r) 0).toInt = (d : Int) ∧ 0 < d ∧ d ≤ 140 := by
  match r, h with
  | 0, _ => exact ⟨3, rfl, by decide, by decide⟩
  | 1, _ => exact ⟨140, rfl, by decide, by decide⟩
  | 2, _ => exact ⟨9, rfl, by decide, by decide⟩
  | 3, _ => exact ⟨30, rfl, by decide, by decide⟩
theorem fknown_ok : CSound Try.prog 17 trueC := by
  refine fsound' (G := Gkn) (c := codeOf Try.f17) mixed tyT Gkn_ok Try.func17 (by rfl) (by kernel_rfl) (by kernel_rfl) fun args M r hr hvc hw hm => ?_
  unfold trueC at hr
  simp only at hr
  split at hr <;> cases hr
  clear hvc hm hw
  conv => cbv
  refine LoopP.mk {s : Int × Nat // (0 ≤ s.1 ∧ s.1 < 100003) ∧ s.2 ≤ 60} (fun s => ⟨ev 153 [(0, .bool fun _ => false), (1, .int .i64 fun _ => s.1.1), (2, .int .i64 fun _ => (s.1.2 : Int))], [], 8⟩) (fun s => 60 - s.1.2) ⟨(1, 0), by omega⟩ ?_ ?_
  · conv => cbv
    simp [Hold.iff]
  · intro s
    have hk0 := s.2.1.1
    have hk1 := s.2.1.2
    have hi := s.2.2
    generalize s.1.1 = k0 at hk0 hk1 ⊢
    generalize s.1.2 = i at hi ⊢
    clear s
    conv => cbv
    refine .d (fun h => ?_) (fun h => ?_)
    · have h : (i : Int) < 60 := h
      have hi6 : i < 60 := by omega
      have hw1 : IntKind.i64.wrap ((i : Int) + 1) = ((i + 1 : Nat) : Int) := by rw [wrap_i64 (by omega)]; omega
      conv => cbv
      refine LoopP.mk KnF (fun s => ⟨ev 153 [(0, .bool fun _ => false), (1, .int .i64 fun _ => s.k), (2, .int .i64 fun _ => (i : Int)), (3, .ms 0 (fun _ => 0) fun _ => s.n), (4, .int .i64 fun _ => (s.n : Int))], [(0, .row false FrS fun _ => s.xs)], 8⟩) (fun s => 5 - s.n) ⟨0, k0, [], rfl, by omega, hk0, hk1, fun j hj => absurd hj (by omega)⟩ ?_ ?_
      · conv => cbv
        simp [Hold.iff]
      · intro s
        have hn1 := s.h1
        have hn2 := s.h2
        have hk3 := s.h3
        have hk4 := s.h4
        have hp5 := s.h5
        generalize s.n = n at hn1 hn2 hp5 ⊢
        generalize s.k = k at hk3 hk4 ⊢
        generalize s.xs = xs at hn1 hp5 ⊢
        clear s
        have n5 : (5 : Int) ≠ 0 := by decide
        have t5 : ((i : Int)).tmod 5 = ((i % 5 : Nat) : Int) := (Int.ofNat_tmod i 5).symm
        conv => cbv
        refine ⟨⟨n5⟩, ?_⟩
        by_cases hni : n < i % 5
        · refine .ofT (decide_eq_true (by rw [t5]; exact Int.ofNat_lt.2 hni)) ?_
          have n4 : (4 : Int) ≠ 0 := by decide
          have t4 : ((n : Int)).tmod 4 = ((n % 4 : Nat) : Int) := (Int.ofNat_tmod n 4).symm
          have hd := kn_div (n % 4) (by omega)
          have hd0 := hd.choose_spec
          generalize hd.choose = d at hd0
          have hd1 := hd0.1
          have hd2 := hd0.2.1
          have hd3 := hd0.2.2
          clear hd hd0
          have v1 : 0 ≤ ((n : Int)).tmod 4 ∧ ((n : Int)).tmod 4 < ((4 : Nat) : Int) := by rw [t4]; omega
          have e1 : (((n : Int)).tmod 4).toNat = n % 4 := by rw [t4]; omega
          have v2 : 0 + (((n : Int)).tmod 4).toNat < (List.map dall (chunk 1 4 [fun _ => D.int 3, fun _ => D.int 140, fun _ => D.int 9, fun _ => D.int 30])).length := by rw [e1]; simp [chunk]; omega
          have hdv : (lk (lk (List.map dall (chunk 1 4 [fun _ => D.int 3, fun _ => D.int 140, fun _ => D.int 9, fun _ => D.int 30])) (0 + (((n : Int)).tmod 4).toNat)) 0).toInt = (d : Int) := by rw [e1, Nat.zero_add]; exact hd1
          have hL : ∃ L : Nat, k.tmod (d : Int) = (L : Int) ∧ L < d := by
            refine ⟨(k.tmod d).toNat, ?_, ?_⟩
            · rw [Int.tmod_eq_emod_of_nonneg hk3]; have := Int.emod_nonneg k (show (d : Int) ≠ 0 by omega); omega
            · rw [Int.tmod_eq_emod_of_nonneg hk3]; have := Int.emod_lt_of_pos k (show (0 : Int) < d by omega); omega
          have hdv2 : (lk (lk (List.map dall (chunk 1 4 [fun _ => D.int 3, fun _ => D.int 140, fun _ => D.int 9, fun _ => D.int 30])) ((((n : Int)).tmod 4).toNat)) 0).toInt = (d : Int) := by rw [e1]; exact hd1
          have hL0 := hL.choose_spec
          generalize hL.choose = L at hL0
          have hL1 := hL0.1
          have hL2 := hL0.2
          clear hL hL0
          have v3 : 0 ≤ (L : Int) ∧ (L : Int) ≤ (big : Int) := by simp only [big]; omega
          have v4 : ¬ (d : Int) = 0 := by omega
          conv => cbv
          refine ⟨⟨n4⟩, ⟨v1⟩, ⟨v2⟩, ⟨by simp only [hdv]; exact v4⟩, ⟨rfl⟩, ⟨by simp only [hdv, hL1]; exact v3⟩, ?_⟩
          refine LoopP.mk {s : Nat × List (List D) // s.1 ≤ L ∧ s.2.length = L} (fun s => ⟨ev 153 [(0, .bool fun _ => false), (1, .int .i64 fun _ => k), (2, .int .i64 fun _ => (i : Int)), (3, .ms 0 (fun _ => 0) fun _ => n), (4, .int .i64 fun _ => (n : Int)), (5, .mp 1 0), (6, .int .i64 fun _ => (s.1.1 : Int))],
            [(0, .row false FrS fun _ => xs), (1, .obj [.int .u8 fun _ => IntKind.u8.wrap k, .ms 2 (fun _ => 0) fun _ => L]), (2, .row false U8 fun _ => s.1.2)], 8⟩) (fun s => L - s.1.1) ⟨(0, List.replicate L [D.int 0]), by simp⟩ ?_ ?_
          · conv => cbv
            simp [Hold.iff, hdv2, hL1, dall]
          · intro s
            have hm1 := s.2.1
            have hm2 := s.2.2
            generalize s.1.1 = m at hm1 ⊢
            generalize s.1.2 = y at hm2 ⊢
            clear s
            conv => cbv
            refine .d (fun h => ?_) (fun h => ?_)
            · have h : (m : Int) < (L : Int) := h
              have hwm : IntKind.i64.wrap ((m : Int) + 1) = ((m + 1 : Nat) : Int) := by rw [wrap_i64 (by omega)]; omega
              have v5 : 0 ≤ (m : Int) ∧ (m : Int) < (L : Int) := by omega
              have v6 : 0 + ((m : Int)).toNat < y.length := by omega
              conv => cbv
              refine ⟨⟨v5⟩, ⟨v6⟩, ?_⟩
              refine ⟨⟨(m + 1, y.set m [D.int (IntKind.u8.wrap (IntKind.i64.wrap ((m : Int) * k)))]), by omega, by simpa using hm2⟩, by show L - (m + 1) < L - m; omega, ?_⟩
              conv => cbv
              simp [Hold.iff, hwm, dall]
            · have h : ¬ (m : Int) < (L : Int) := h
              have v7 : 0 + L ≤ y.length := by omega
              have v8 : n ≤ xs.length := by omega
              have v9 : n + 1 ≤ big := by simp only [big]; omega
              have n9 : ¬ (100003 : Int) = 0 := by decide
              have hwm : IntKind.i64.wrap ((n : Int) + 1) = ((n + 1 : Nat) : Int) := by rw [wrap_i64 (by omega)]; omega
              have ht : List.take n xs = xs := List.take_of_length_le (by omega)
              have hty : List.take L y = y := List.take_of_length_le (by omega)
              have hkw : (IntKind.i64.wrap (IntKind.i64.wrap (IntKind.i64.wrap (k * 31) + IntKind.i64.wrap (7 * (n : Int))) + 11)).tmod 100003 = (k * 31 + 7 * (n : Int) + 11) % 100003 := by
                rw [wrap_i64 (n := k * 31) (by omega), wrap_i64 (n := 7 * (n : Int)) (by omega), wrap_i64 (n := k * 31 + 7 * (n : Int)) (by omega), wrap_i64 (by omega), Int.tmod_eq_emod_of_nonneg (by omega)]
              have q1 := Int.emod_nonneg (k * 31 + 7 * (n : Int) + 11) (show (100003 : Int) ≠ 0 by decide)
              have q2 := Int.emod_lt_of_pos (k * 31 + 7 * (n : Int) + 11) (show (0 : Int) < 100003 by decide)
              conv => cbv
              refine ⟨⟨v7⟩, ⟨rfl⟩, ⟨v8⟩, ⟨by simp [chunk]; exact v9⟩, ⟨by simp [chunk]⟩, ⟨n9⟩, ?_⟩
              refine ⟨⟨n + 1, (k * 31 + 7 * (n : Int) + 11) % 100003, xs ++ [[D.int (IntKind.u8.wrap k), D.list y]], by simp [hn1], by omega, q1, q2, fun j hj => ?_⟩, by show 5 - (n + 1) < 5 - n; omega, ?_⟩
              · by_cases hjn : j < n
                · have e : lk (xs ++ [[D.int (IntKind.u8.wrap k), D.list y]]) j = lk xs j := by simp [lk, List.getD, List.getElem?_append_left (show j < xs.length by omega)]
                  rw [e]; exact hp5 j hjn
                · have e : lk (xs ++ [[D.int (IntKind.u8.wrap k), D.list y]]) j = [D.int (IntKind.u8.wrap k), D.list y] := by
                    have : j = xs.length := by omega
                    subst this; simp [lk, List.getD]
                  rw [e]
                  show y.length ≤ 140
                  omega
              · conv => cbv
                simp [Hold.iff, chunk, dall, ht, hty, hwm, hkw]
        · refine .ofF (decide_eq_false (by rw [t5]; exact fun e => hni (Int.ofNat_lt.1 e))) ?_
          conv => cbv
          refine LoopP.mk {s : Nat × List (List D) // s.1 ≤ n ∧ s.2.length ≤ 200 * s.1} (fun s => ⟨ev 153 [(0, .bool fun _ => false), (1, .int .i64 fun _ => k), (2, .int .i64 fun _ => (i : Int)), (3, .ms 0 (fun _ => 0) fun _ => n), (7, .ms 1 (fun _ => 0) fun _ => s.1.2.length), (8, .int .i64 fun _ => (s.1.1 : Int))],
            [(0, .row false FrS fun _ => xs), (1, .row false U8 fun _ => s.1.2)], 8⟩) (fun s => n - s.1.1) ⟨(0, []), by simp⟩ ?_ ?_
          · conv => cbv
            simp [Hold.iff]
          · intro s
            have hm1 := s.2.1
            have hm2 := s.2.2
            generalize s.1.1 = m at hm1 hm2 ⊢
            generalize s.1.2 = b at hm2 ⊢
            clear s
            conv => cbv
            refine .d (fun h => ?_) (fun h => ?_)
            · have h : (m : Int) < (n : Int) := h
              have h4 : m < n := by omega
              have hwm : IntKind.i64.wrap ((m : Int) + 1) = ((m + 1 : Nat) : Int) := by rw [wrap_i64 (by omega)]; omega
              have v5 : 0 ≤ (m : Int) ∧ (m : Int) < (n : Int) := by omega
              have v6 : 0 + ((m : Int)).toNat < xs.length := by omega
              have e6 : 0 + ((m : Int)).toNat = m := by omega
              have hp := hp5 m h4
              conv => cbv
              rw [e6]
              generalize (lk (lk xs m) 1).toList = p at hp ⊢
              generalize (lk (lk xs m) 0).toInt = kd
              have hfl := frR_len kd (sRow (ofRow p))
              rw [sRow_len, ofRow_len] at hfl
              have hpp := put1_len 9 p.length
              rw [← putB] at hpp
              generalize hfr : frR kd (sRow (ofRow p)) = fr at hfl ⊢
              have v7 : m < xs.length := by omega
              have v8 : 8 * fr.length + 64 ≤ big := by simp only [big]; omega
              have v9 : b.length + fr.length ≤ big := by simp only [big]; omega
              refine ⟨⟨v5⟩, ⟨v7⟩, ⟨v8⟩, ⟨rfl⟩, ⟨Nat.le_refl _⟩, ⟨by simp; exact v9⟩, ⟨by simp⟩, ?_⟩
              refine ⟨⟨(m + 1, b ++ fr), by omega, by rw [List.length_append]; omega⟩, by show n - (m + 1) < n - m; omega, ?_⟩
              conv => cbv
              simp [Hold.iff, hwm]
            · have h : ¬ (m : Int) < (n : Int) := h
              have v7 : 0 + n ≤ xs.length := by omega
              have n7 : ¬ (7 : Int) = 0 := by decide
              have hb8 : b.length ≤ 800 := by omega
              have v8 : 0 + b.length ≤ b.length := by omega
              conv => cbv
              refine ⟨⟨v7⟩, ?_⟩
              refine .ofF rfl ?_
              conv => cbv
              refine ⟨⟨n7⟩, ⟨rfl, Nat.le_refl _⟩, ?_⟩
              refine .ofF rfl ?_
              conv => cbv
              refine ⟨⟨v7⟩, ⟨v8⟩, ?_⟩
              refine .ofF rfl ?_
              conv => cbv
              refine LoopP.mk {s : Nat // s ≤ b.length} (fun s => ⟨ev 153 [(0, .bool fun _ => false), (1, .int .i64 fun _ => k), (2, .int .i64 fun _ => (i : Int)), (7, .ms 1 (fun _ => 0) fun _ => b.length), (9, .int .i64 fun _ => (s.1 : Int))],
                [(1, .row false U8 fun _ => b)], 8⟩) (fun s => b.length - s.1) ⟨0, by omega⟩ ?_ ?_
              · conv => cbv
                simp [Hold.iff]
              · intro s
                have hj := s.2
                generalize s.1 = j at hj ⊢
                clear s
                conv => cbv
                refine .d (fun h => ?_) (fun h => ?_)
                · have h : (j : Int) < (b.length : Int) := h
                  have n6 : (6 : Int) ≠ 0 := by decide
                  conv => cbv
                  refine ⟨⟨n6⟩, ?_⟩
                  by_cases h63 : ((i : Int)).tmod 6 = 3
                  · refine .ofT (by simp [h63]) ?_
                    have hwj : IntKind.i64.wrap ((j : Int) + 1) = ((j + 1 : Nat) : Int) := by rw [wrap_i64 (by omega)]; omega
                    have w1 : b.length ≤ big := by simp only [big]; omega
                    have w2 : 0 ≤ (j : Int) ∧ (j : Int) < (b.length : Int) := by omega
                    have w3 : 0 + ((j : Int)).toNat < b.length := by omega
                    have n2 : ¬ (255 : Int) = 0 := by decide
                    have hTb : List.take b.length (List.drop 0 b) = b := by simp
                    have w4 : 0 ≤ (0 : Int) ∧ (0 : Int) ≤ (j : Int) ∧ (j : Int) ≤ (j : Int) ∧ (j : Int) ≤ (b.length : Int) := by omega
                    conv => cbv
                    rw [hTb]
                    refine ⟨⟨v8⟩, ⟨w1⟩, ⟨w2⟩, ⟨w3⟩, ⟨n2⟩, ⟨w2⟩, ⟨w3⟩, ⟨rfl, by simp⟩, ?_⟩
                    refine .ofF rfl ?_
                    conv => cbv
                    have w5 : 0 + (0 : Int).toNat = 0 ∧ ((j : Int)).toNat - (0 : Int).toNat ≤ b.length := by omega
                    refine ⟨⟨w4⟩, ⟨w5⟩, ?_⟩
                    refine .ofF rfl ?_
                    conv => cbv
                    refine ⟨⟨by simp⟩, ?_⟩
                    refine .ofF rfl ?_
                    conv => cbv
                    refine ⟨⟨j + 1, by omega⟩, by show b.length - (j + 1) < b.length - j; omega, ?_⟩
                    conv => cbv
                    simp [Hold.iff, hwj]
                  · refine .ofF (by simp [h63]) ?_
                    conv => cbv
                    refine ⟨⟨(k, i + 1), ⟨hk3, hk4⟩, by omega⟩, by show 60 - (i + 1) < 60 - i; omega, ?_⟩
                    conv => cbv
                    simp [Hold.iff, hw1]
                · have h : ¬ (j : Int) < (b.length : Int) := h
                  conv => cbv
                  refine .ofF rfl ?_
                  conv => cbv
                  refine ⟨⟨(k, i + 1), ⟨hk3, hk4⟩, by omega⟩, by show 60 - (i + 1) < 60 - i; omega, ?_⟩
                  conv => cbv
                  simp [Hold.iff, hw1]
    · have h : ¬ (i : Int) < 60 := h
      conv => cbv
      repeat (first | (refine ⟨⟨?_⟩, ?_⟩; (focus (simp [chunk]; done))) | (refine .ofT rfl ?_; conv => cbv))
      exact ⟨rfl⟩
end Go.Am
