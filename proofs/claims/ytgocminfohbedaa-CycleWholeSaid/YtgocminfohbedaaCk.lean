/- The walk of the statement CycleWhole. -/
import Derived.Test.YtgocminfohbedaaCj
namespace Go.Proofs.Ytgocminfohbedaa.Cy
open Go Go.RowKit Go.Proofs.Ytgocminfohbedaa Go.Proofs.Ytgocminfohbedaa.K Go.Proofs.Ytgocminfohbedaa.M Go.Proofs.Ytgocminfohbedaa.O Go.Proofs.Ytgocminfohbedaa.So Go.Proofs.Ytgocminfohbedaa.R

theorem Spec.sub {l : List Know} {P P' : List (List Int)} (h : Spec l P) (h' : Spec l P') : ∀ x ∈ P.flatten, x ∈ P'.flatten :=
  h.least (C := fun x => x ∈ P'.flatten) (fun _k hk hu => h'.up hk hu) (fun k hk hc x hx hv => h'.closed k hk hc x hx hv)
theorem Spec.dead {l : List Know} {P P' : List (List Int)} (h : Spec l P) (h' : Spec l P') : Cy.dead l P.flatten = Cy.dead l P'.flatten := by
  unfold Cy.dead
  refine List.filter_congr (fun x _ => ?_)
  exact decide_eq_decide.2 ⟨fun q r => q (h'.sub h x r), fun q r => q (h.sub h' x r)⟩
/-- In the first pass just those who are awake or held. -/
theorem Spec.first {l : List Know} {P : List (List Int)} (h : Spec l P) {k : Know} (hk : k ∈ l) {i : Nat} (hi : i < P.length) (hr : k.ref ∈ P.getD i []) : (i = 0 ↔ k.up = true) := by
  constructor
  · intro e; subst e
    exact (h.root k hk).1 hr
  · intro hu
    by_cases c : i = 0
    · exact c
    · exfalso
      have h0 := (h.root k hk).2 hu
      have hp := (List.pairwise_flatten.1 h.nodup).2
      have := List.pairwise_iff_getElem.1 hp 0 i (by omega) hi (by omega)
      rw [List.getD_eq_getElem?_getD, List.getElem?_eq_getElem (show 0 < P.length by omega)] at h0
      rw [List.getD_eq_getElem?_getD, List.getElem?_eq_getElem hi] at hr
      exact this _ h0 _ hr rfl
theorem told_perm {l : List Know} {P : List (List Int)} (h : Spec l P) (hd : (refsOf l).Nodup) : (sortL (Cy.dead l P.flatten) ++ P.flatten).Perm (refsOf l) := by
  refine ((sortL_perm _).append_right _).trans ?_
  have n1 : (Cy.dead l P.flatten).Nodup := hd.filter _
  refine (List.perm_ext_iff_of_nodup ?_ hd).2 (fun x => ?_)
  · rw [List.nodup_append]
    exact ⟨n1, h.nodup, fun a ha b hb e => by subst e; exact (mem_dead.1 ha).2 hb⟩
  · rw [List.mem_append, mem_dead]
    constructor
    · rintro (⟨q, _⟩ | q)
      · exact q
      · exact h.mem x q
    · intro q
      by_cases c : x ∈ P.flatten
      · exact .inr c
      · exact .inl ⟨q, c⟩
theorem told_sort {l : List Know} {P : List (List Int)} (h : Spec l P) (hd : (refsOf l).Nodup) (hs : (refsOf l).Pairwise (fun a b => a ≤ b)) : sortL (sortL (Cy.dead l P.flatten) ++ P.flatten) = refsOf l :=
  List.Perm.eq_of_pairwise (le := fun a b : Int => a ≤ b) (fun a b _ _ h1 h2 => by omega) (sortL_le _) hs ((sortL_perm _).trans (told_perm h hd))
theorem refs_sorted {L : List (Know × Value)} (h : ∀ i, i < L.length → (L.getD i noKV).1.ref = 1000 + (i : Int)) : (refsOf (L.map (·.1))).Pairwise (fun a b => a ≤ b) := by
  refine List.pairwise_iff_getElem.2 (fun i j hi hj hij => ?_)
  have hi' : i < L.length := by simpa [refsOf] using hi
  have hj' : j < L.length := by simpa [refsOf] using hj
  have h1 := h i hi'
  have h2 := h j hj'
  rw [List.getD_eq_getElem?_getD, List.getElem?_eq_getElem hi'] at h1
  rw [List.getD_eq_getElem?_getD, List.getElem?_eq_getElem hj'] at h2
  simp only [Option.getD_some] at h1 h2
  simp only [refsOf, List.getElem_map]
  omega

theorem map_getD {L : List (Know × Value)} {i : Nat} (hi : i < L.length) : (L.map (·.1)).getD i noKnow = (L.getD i noKV).1 := by
  rw [List.getD_eq_getElem?_getD, List.getD_eq_getElem?_getD, List.getElem?_map, List.getElem?_eq_getElem hi]
  rfl
theorem map_mem {L : List (Know × Value)} {i : Nat} (hi : i < L.length) : (L.getD i noKV).1 ∈ L.map (·.1) := by
  rw [← map_getD hi]
  exact getD_mem (by rw [List.length_map]; exact hi)
theorem map_of_mem {L : List (Know × Value)} {k : Know} (h : k ∈ L.map (·.1)) : ∃ j, j < L.length ∧ (L.getD j noKV).1 = k := by
  obtain ⟨j, hj, e⟩ := List.mem_iff_getElem.1 h
  have hj' : j < L.length := by simpa using hj
  refine ⟨j, hj', ?_⟩
  rw [← map_getD hj', List.getD_eq_getElem?_getD, List.getElem?_eq_getElem hj]
  exact e

set_option maxHeartbeats 16000000 in
set_option maxRecDepth 100000 in
theorem whole_walk (a : Option Addr) (len cap : Nat) (xs : List Int) (w : World) (hx : IntRow w a xs) (hl : xs.length = len) (hlc : len ≤ cap) (hc : cap ≤ 9223372036854775807) :
    Calls Try.prog 5 #[.slice a len cap] w fun e w' => e = .returned (.bool true) ∧ Upd [] w w' := by
  obtain ⟨i3, hi3, hz3a, hz3b, hz3c⟩ := info_parts info3
  have HI3 := hid hi3
  have HA3 := hid hz3a
  have HB3 := hid hz3b
  have HC3 := hid hz3c
  clear hi3 hz3a hz3b hz3c
  have HX := hid hx
  have HL := hid hl
  have HLC := hid hlc
  have HC := hid hc
  clear hx hl hlc hc
  go_enter Try.func5, Try.ntmps5
  go_wp2_with fail
  refine (begun_true w).mono ?_
  rintro e w1 ⟨rfl, hu⟩
  have U1 := hid hu
  clear hu
  have KN := hid (knows_any a len cap xs w1 (HX.out.upd U1.out) HL.out HLC.out HC.out)
  go_wp2_with fail
  refine KN.out.mono ?_
  rintro e w2 ⟨v, rfl, ⟨L, ho, ⟨M, hr⟩, h40, hf⟩, hu⟩
  obtain ⟨al, kl, ev, -⟩ := own_view ho
  subst ev
  obtain ⟨n, hn⟩ : ∃ n, n = L.length := ⟨_, rfl⟩
  have KA := hid (know_at ho hr rfl)
  have ND := hid (refs_inc hf)
  have SR := hid (refs_sorted hf)
  have HO := hid ho
  have HR := hid hr
  have HF := hid hf
  have U2 := hid (U1.out.trans hu (fun x hx => by cases hx))
  rw [← hn] at HO
  rw [← hn]
  have HNL := hid hn
  have hn40 : n ≤ 40 := by omega
  clear ho hr h40 hf hu hn KN
  have HNM := hid (show n = (L.map (·.1)).length by rw [List.length_map]; exact HNL.out)
  have GA := hid (garbage_any al (L.map (·.1)) n kl HNM.out (by omega) ND.out KA.out)
  go_wp2_with fail
  refine GA.out.mono ?_
  rintro e w3 ⟨vg, rfl, ⟨P0, sp0, hog⟩, hu⟩
  have U3 := hid (U2.out.trans hu (fun x hx => by cases hx))
  have KA3 := hid (KA.out.upd hu)
  have HO3 := hid (own_new HO.out hu)
  have HR3 := hid (HR.out.new hu)
  have OG := hid hog
  have SP0 := hid sp0
  obtain ⟨ag, kg, eg, -⟩ := own_view hog
  subst eg
  clear hu GA KA HO HR hog sp0
  have PA := hid (passes_any al (L.map (·.1)) n kl HNM.out (by omega) ND.out KA3.out)
  go_wp2_with fail
  refine PA.out.mono ?_
  rintro e w4' ⟨vp, rfl, ⟨P, us, MP, hop, hrp, sp⟩, hu⟩
  obtain ⟨ap, kp, ep, -⟩ := own_view hop
  subst ep
  obtain ⟨np, hnp⟩ : ∃ np, np = P.length := ⟨_, rfl⟩
  rw [← hnp]
  rw [← hnp] at hop
  have HNP := hid hnp
  have SP := hid sp
  obtain ⟨G, hG⟩ : ∃ G, G = sortL (dead (L.map (·.1)) P.flatten) := ⟨_, rfl⟩
  have OG3 := hid (show w3.ownsRow w2.heap.size 3 1 (.slice ag G.length kg) G.length (ints G) by
    have h := OG.out
    rw [SP0.out.dead sp] at h
    rw [hG]; exact h)
  have EG : (sortL (dead (L.map (·.1)) P0.flatten)).length = G.length := by rw [hG, SP0.out.dead sp]
  rw [EG]
  have HGG := hid hG
  have GL := hid (show G.length ≤ n by rw [hG]; have := dead_le (L.map (·.1)) P.flatten; rw [List.length_map, ← HNL.out] at this; exact this)
  obtain ⟨w4, hw4⟩ : ∃ w4, w4 = w4'.alloc (.cells #[.slice ap np kp] 36) := ⟨_, rfl⟩
  obtain ⟨X6, hX6⟩ : ∃ X6, X6 = w4'.heap.size := ⟨_, rfl⟩
  have ua : Upd [] w4' w4 := by rw [hw4]; exact (Upd.refl [] w4').alloc _
  have X6B := hid (show w4.heap[X6]? = some (.cells #[.slice ap np kp] 36 (0, 0)) by rw [hw4, hX6]; exact K.blk_new w4' _)
  have U34 : Upd [] w3 w4 := hu.trans ua (fun t ht => by cases ht)
  have OG4 := hid (own_new OG3.out U34)
  have HO4 := hid (own_new HO3.out U34)
  have HR4 := hid (HR3.out.new U34)
  have OP4 := hid (own_new hop ua)
  have RP4 := hid (hrp.new ua)
  have U4 := hid (U3.out.trans U34 (fun t ht => by cases ht))
  have PLEN := hid (show P.flatten.length ≤ n by
    have := nodup_le sp.nodup sp.mem
    unfold refsOf at this
    rw [List.length_map, ← HNM.out] at this
    exact this)
  have PL := hid (show np ≤ n by rw [hnp]; have := flat_len sp.ne; have := PLEN.out; omega)
  clear hu PA hop hrp sp hG EG ua U34 OG3 HO3 HR3 KA3 OG SP0 hnp
  have hpl := PL.out
  have hgl := GL.out
  have CLN := hid (clone_own OG4.out rfl (by omega))
  go_upto_region 6 with (fail)
  rw [← hw4, ← hX6]
  clear hw4 hX6
  go_wp2_with fail
  refine CLN.out.mono ?_
  rintro e w5 ⟨v8, rfl, ho8, hu5⟩
  obtain ⟨a8, k8, e8, -⟩ := own_view ho8
  subst e8
  have O8 := hid ho8
  have U45 := hid hu5
  have X6C := K.blk_cell (hu5.blk X6B.out (by simp)) 0
  clear ho8 hu5 CLN
  go_wp2_with fail
  go_loopg [8, 40] np (fun d v8 v40 wr => ∃ (i : Nat) (told : List Int), v40 = .int .i64 (i : Int) ∧ i ≤ np ∧ Hid (i + d = np) ∧ Hid (told = G ++ (P.take i).flatten) ∧ Hid (wr.ownsRow w4.heap.size 3 1 v8 told.length (ints told)) ∧ Hid (Upd [] w4 wr))
  case atStart => exact ⟨0, G, rfl, by omega, hid (by omega), hid (by simp), O8, U45⟩
  case round =>
    clear O8 U45 X6C
    obtain ⟨i, told, rfl, hi, Hd, HT, HO8, HU⟩ := hrel
    by_cases hin : i < np
    · have hi' : (i : Int) < (np : Int) := by omega
      have hiP : i < P.length := by rw [← HNP.out]; exact hin
      obtain ⟨r, kr, cur, eu, -, hrow, -⟩ := RP4.out.2 i hiP
      obtain ⟨q, hq⟩ : ∃ q, q = P.getD i [] := ⟨_, rfl⟩
      rw [← hq] at eu hrow
      obtain ⟨xp, rfl, cp4⟩ : ∃ xp, ap = some ⟨xp, 0, none⟩ ∧ w4.cell? ⟨xp, i, none⟩ = some (.slice (some ⟨r, 0, none⟩) q.length kr) := by
        obtain ⟨a5, k5, e5, _, _, hc⟩ := own_view OP4.out
        simp only [Value.slice.injEq] at e5
        obtain ⟨rfl, _, _⟩ := e5
        have hul : i < us.length := by rw [RP4.out.1]; exact hiP
        obtain ⟨x, ex, _, c, _⟩ := hc i (us.getD i undef) (by rw [List.getD_eq_getElem?_getD, List.getElem?_eq_getElem hul]; rfl)
        rw [eu] at c
        exact ⟨x, ex, c⟩
      have cp := HU.out.cell cp4 (by simp)
      have hqP : q ∈ P := by
        rw [hq, List.getD_eq_getElem?_getD, List.getElem?_eq_getElem hiP]
        exact List.getElem_mem _
      have hql : q.length ≤ n := by
        have h2 : q.length ≤ P.flatten.length := (List.sublist_flatten_of_mem hqP).length_le
        have := PLEN.out
        omega
      obtain ⟨nqq, hnq⟩ : ∃ nqq, nqq = q.length := ⟨_, rfl⟩
      rw [← hnq] at cp hql
      have HNQ := hid hnq
      have HQ := hid hq
      have HIP := hid hiP
      have HROW4 := hid hrow
      have HIN := hid hin
      have etk : (P.take (i + 1)).flatten = (P.take i).flatten ++ q := by
        rw [List.take_add_one, List.flatten_append, hq, List.getD_eq_getElem?_getD, List.getElem?_eq_getElem hiP]
        simp
      have ETK := hid etk
      obtain ⟨a8, k8, e8, -⟩ := own_view HO8.out
      subst e8
      clear hq hnq hiP hrow eu hqP etk hin cp4
      go_upto_region 12 with (fail)
      obtain ⟨wb, hwb⟩ : ∃ wb, wb = wr.alloc (.cells #[.int .i64 (i : Int)] 3) := ⟨_, rfl⟩
      obtain ⟨X9, hX9⟩ : ∃ X9, X9 = wr.heap.size := ⟨_, rfl⟩
      have ub : Upd [] wr wb := by rw [hwb]; exact (Upd.refl [] wr).alloc _
      have X9B := hid (show wb.heap[X9]? = some (.cells #[.int .i64 (i : Int)] 3 (0, 0)) by rw [hwb, hX9]; exact K.blk_new wr _)
      have N9 := hid (show ∀ z, (Value.slice a8 told.length k8).ownBlock = some z → z ≠ X9 from fun z hz => by have := own_lt HO8.out z hz; omega)
      have O8B := hid (own_new HO8.out ub)
      have UB := hid (HU.out.trans ub (fun t ht => by cases ht))
      rw [← hwb, ← hX9]
      clear hwb hX9 ub cp HU HO8
      go_wp2_with fail
      go_loopg [8, 47] nqq (fun d v8 v47 wr => ∃ (j : Nat) (told' : List Int), v47 = .int .i64 (j : Int) ∧ j ≤ nqq ∧ Hid (j + d = nqq) ∧ Hid (told' = told ++ q.take j) ∧ Hid (wr.ownsRow w4.heap.size 3 1 v8 told'.length (ints told')) ∧ Hid (Upd [] w4 wr) ∧ Hid (wr.heap[X9]? = some (.cells #[.int .i64 (i : Int)] 3 (0, 0)) ∧ ∀ z, v8.ownBlock = some z → z ≠ X9))
      case atStart => exact ⟨0, told, rfl, by omega, hid (by omega), hid (by simp), O8B, UB, hid ⟨X9B.out, N9.out⟩⟩
      case round =>
        clear O8B UB X9B N9
        obtain ⟨j, told', rfl, hj, Hj, HT', HO8, HU, HX9⟩ := hrel
        obtain ⟨a8, k8, e8, -⟩ := own_view HO8.out
        subst e8
        by_cases hjn : j < nqq
        · have hj' : (j : Int) < (nqq : Int) := by omega
          have hjl : j < q.length := by rw [← HNQ.out]; exact hjn
          obtain ⟨xa, e, hc⟩ := HROW4.out.upd HU.out j hjl
          cases e
          rw [addz] at hc
          obtain ⟨x, hx⟩ : ∃ x, x = q.getD j 0 := ⟨_, rfl⟩
          rw [← hx] at hc
          have hxq : x ∈ q := by
            rw [hx, List.getD_eq_getElem?_getD, List.getElem?_eq_getElem hjl]
            exact List.getElem_mem _
          have etq : q.take (j + 1) = q.take j ++ [x] := by
            rw [List.take_add_one, hx, List.getD_eq_getElem?_getD, List.getElem?_eq_getElem hjl]; rfl
          have HXQ := hid hxq
          have ETQ := hid etq
          have HJ := hid hjn
          have htl : told'.length ≤ 200 := by
            rw [HT'.out, List.length_append, HT.out, List.length_append, List.length_take]
            have h0 : P.flatten = (P.take i).flatten ++ (P.drop i).flatten := by rw [← List.flatten_append, List.take_append_drop]
            have h1 := congrArg List.length h0
            rw [List.length_append] at h1
            have := PLEN.out
            omega
          clear hx hxq etq hjl hjn
          go_upto_region 15 with (fail)
          obtain ⟨wd, hwd⟩ : ∃ wd, wd = wr.alloc (.cells #[.int .i64 x] 3) := ⟨_, rfl⟩
          obtain ⟨X12, hX12⟩ : ∃ X12, X12 = wr.heap.size := ⟨_, rfl⟩
          have ud : Upd [] wr wd := by rw [hwd]; exact (Upd.refl [] wr).alloc _
          have X12B := hid (show wd.heap[X12]? = some (.cells #[.int .i64 x] 3 (0, 0)) by rw [hwd, hX12]; exact K.blk_new wr _)
          have N12 := hid (show X12 ∉ (Value.slice a8 told'.length k8).ownBlock.toList from fun hs => by have := own_lt HO8.out X12 (by simpa using hs); omega)
          have O8D := hid (own_new HO8.out ud)
          have UD := hid (HU.out.trans ud (fun t ht => by cases ht))
          have X9D := hid (ud.blk HX9.out.1 (by simp))
          have cx12 := (K.blk_cell X12B.out 0).trans rfl
          have L9 := hid (K.blk_lt HX9.out.1)
          have SD := hid (show w4.heap.size ≤ wd.heap.size from UD.out.size)
          have WD := hid (show wr.heap.size ≤ wd.heap.size from ud.size)
          rw [← hwd, ← hX12]
          clear hwd hX12 ud hc
          go_upto_region 16 with (first | (at_builtin; refine wpList_app (W := wd) rfl (.tmp 51) (.tmp 53) 22 rfl w4.heap.size 3 i3 _ 1 8 Try.underlying22 HI3.out HA3.out HB3.out HC3.out rfl (by decide) (.slice a8 told'.length k8) told'.length (ints told') rfl O8D.out [.int .i64 x] 3 (by first | rfl | (rw [World.size_alloc]; rfl)) rfl (by intro u hu; simp at hu; subst hu; rfl) (by omega) (by omega) SD.out ?_; intro v6 w6 ho6 hu6 hl6; have O6 := hid ho6; have U6 := hid hu6; have HL6 := hid hl6; clear ho6 hu6 hl6))
          have X9_6 := hid (U6.out.blk X9D.out (fun hs => HX9.out.2 X9 (by simpa using hs) rfl))
          have X12_6 := hid (U6.out.blk X12B.out N12.out)
          have U46 := hid (UD.out.trans U6.out (fun t ht => .inr (own_ge O8D.out t (by simpa using ht))))
          have HO6 := hid (own_new HO4.out U46.out)
          have HR6 := hid (HR4.out.new U46.out)
          have HV := hid (fun t (ht : t < n) => (show ∃ a m k, (L.getD t noKV).2 = .slice a m k from by
            obtain ⟨⟨ra, rk, e, -⟩, -⟩ := HR6.out t (by rw [← HNL.out]; exact ht)
            exact ⟨ra, _, rk, e⟩))
          have N96 := hid (fun z (hz : v6.ownBlock = some z) => (show z ≠ X9 from by
            rcases HL6.out z hz with q1 | q1
            · exact HX9.out.2 z q1
            · have := L9.out
              have := WD.out
              omega))
          obtain ⟨a6, k6, e6, -⟩ := own_view O6.out
          subst e6
          have hqi : x ∈ P.getD i [] := by rw [← HQ.out]; exact HXQ.out
          have hex : ∃ t, t < n ∧ ((L.getD t noKV).1.ref == x) = true := by
            obtain ⟨k0, hk0, e0⟩ := List.mem_map.1 (SP.out.mem x (mem_flat.2 ⟨i, HIP.out, hqi⟩))
            obtain ⟨t, ht, e1⟩ := map_of_mem hk0
            exact ⟨t, by rw [HNL.out]; exact ht, by rw [e1, e0]; simp⟩
          have IX := hid (index19 (X := X12) (fun t => (L.getD t noKV).1.ref == x) (fun t ht wz u => clos19 (L.getD t noKV) (K.blk_cell (u.blk X12_6.out (by simp)) 0) (HV.out t ht)) HO6.out HNL.out (by omega) HV.out hex)
          have HQI := hid hqi
          clear hqi hex cx12
          go_wp2_with fail
          refine IX.out.mono ?_
          rintro e w7 ⟨i0, rfl, hi0, hf0, hu7⟩
          have hi0L : i0 < L.length := by rw [← HNL.out]; exact hi0
          have X9_7 := hid (hu7.blk X9_6.out (by simp))
          have X12_7 := hid (hu7.blk X12_6.out (by simp))
          have U47 := hid (U46.out.trans hu7 (fun t ht => by cases ht))
          have O7 := hid (own_new O6.out hu7)
          have HO7 := hid (own_new HO6.out hu7)
          have HR7 := hid (HR6.out.new hu7)
          have hk0 := map_mem hi0L
          have hre : (L.getD i0 noKV).1.ref = x := by simpa using hf0
          have hfirst := SP.out.first hk0 HIP.out (by rw [hre]; exact HQI.out)
          obtain ⟨d0, d1, d2, d3⟩ := kcells_get L i0 hi0L
          obtain ⟨a5, k5, e5, _, _, hc5⟩ := own_view HO7.out
          simp only [Value.slice.injEq] at e5
          obtain ⟨rfl, -, rfl⟩ := e5
          obtain ⟨ga, e0, _, c1, _⟩ := hc5 _ _ d1
          subst e0
          obtain ⟨ga', e', _, c2, _⟩ := hc5 _ _ d2
          cases e'
          unfold Know.up at hfirst
          obtain ⟨aw, haw⟩ : ∃ aw, aw = (L.getD i0 noKV).1.awake := ⟨_, rfl⟩
          obtain ⟨ro, hro⟩ : ∃ ro, ro = (L.getD i0 noKV).1.root := ⟨_, rfl⟩
          rw [← haw] at c1 hfirst
          rw [← hro] at c2 hfirst
          have x9 : w7.cell? ⟨X9, 0, none⟩ = some (.int .i64 (i : Int)) := K.blk_cell X9_7.out 0
          have ni0 : ¬ (i0 : Int) < 0 := by omega
          have hi0' : (i0 : Int) < (n : Int) := by omega
          have REL := hid (fun wz (u : Upd [] w7 wz) => (show ∃ (told'' : List Int) (v : Value), v = .slice a6 (told'.length + 1) k6 ∧ told'' = told ++ q.take (j + 1) ∧ told''.length = told'.length + 1 ∧ wz.ownsRow w4.heap.size 3 1 v told''.length (ints told'') ∧ Upd [] w4 wz ∧ (wz.heap[X9]? = some (.cells #[.int .i64 (i : Int)] 3 (0, 0)) ∧ ∀ z, v.ownBlock = some z → z ≠ X9) from by
            refine ⟨told' ++ [x], _, rfl, by rw [HT'.out, ETQ.out, List.append_assoc], by simp, ?_, U47.out.trans u (fun t ht => by cases ht), u.blk X9_7.out (by simp), N96.out⟩
            rw [List.length_append, ints_snoc]
            exact own_new O7.out u))
          clear haw hro hk0 hre hf0 hi0 hi0L d0 d1 d2 d3 hc5 hu7
          by_cases hz : i = 0
          · have b9 : ((i : Int) == 0) = true := by rw [beq_iff_eq]; omega
            have hup := hfirst.1 hz
            have i00 : ¬ (0 : Int) < (i : Int) := by omega
            clear hfirst hz
            cases ro with
            | true =>
              go_upto_region 17 with (fail)
              go_quiet (fail)
              go_wp2_with fail
              go_roundg (nqq - (j + 1))
              case measure => have := Hj.out; have := HJ.out; omega
              case rel =>
                obtain ⟨t2, v2, e2, h1, h2, h3, h4, h5⟩ := REL.out _ ((Upd.refl [] w7).drewN _)
                exact ⟨j + 1, t2, by go_num, HJ.out, hid (Nat.add_sub_of_le HJ.out), hid h1, hid (by rw [← e2]; exact h3), hid h4, hid (by rw [← e2]; exact h5)⟩
            | false =>
              simp only [Bool.false_or] at hup
              subst hup
              go_upto_region 17 with (fail)
              go_quiet (fail)
              go_wp2_with fail
              go_roundg (nqq - (j + 1))
              case measure => have := Hj.out; have := HJ.out; omega
              case rel =>
                obtain ⟨t2, v2, e2, h1, h2, h3, h4, h5⟩ := REL.out _ ((Upd.refl [] w7).drewN _)
                exact ⟨j + 1, t2, by go_num, HJ.out, hid (Nat.add_sub_of_le HJ.out), hid h1, hid (by rw [← e2]; exact h3), hid h4, hid (by rw [← e2]; exact h5)⟩
          · have b9 : ((i : Int) == 0) = false := by rw [beq_eq_false_iff_ne]; omega
            have hnup : (ro || aw) = false := by
              rw [Bool.eq_false_iff]
              exact fun h => hz (hfirst.2 h)
            rw [Bool.or_eq_false_iff] at hnup
            obtain ⟨r1, r2⟩ := hnup
            subst r1 r2
            have ip : (0 : Int) < (i : Int) := by omega
            have HZ := hid hz
            clear hfirst hz
            have AS := hid (fun wz (u : Upd [] w7 wz) => (show Asks wz X6 X9 X12 i (P.getD (i - 1) []) x MP from by
              have hip := HIP.out
              obtain ⟨r', kr', cur', eu', hb', hrow', hlt'⟩ := RP4.out.2 (i - 1) (by omega)
              have hul : i - 1 < us.length := by rw [RP4.out.1]; omega
              have cpi : w4.cell? ⟨xp, i - 1, none⟩ = some (.slice (some ⟨r', 0, none⟩) (P.getD (i - 1) []).length kr') := by
                obtain ⟨a5, k5, e5, _, _, hc⟩ := own_view OP4.out
                cases e5
                obtain ⟨x', ex, _, c, _⟩ := hc (i - 1) (us.getD (i - 1) undef) (by rw [List.getD_eq_getElem?_getD, List.getElem?_eq_getElem hul]; rfl)
                cases ex
                rw [eu'] at c
                exact c
              have u4 := U47.out.trans u (fun t ht => by cases ht)
              have hn1 := HNP.out
              have hn2 := PL.out
              refine ⟨⟨xp, np, kp, _, K.blk_cell (u4.blk X6B.out (by simp)) 0, by omega, u4.cell cpi (by simp), ⟨_, kr', rfl, introw_keep hrow' u4 (by simp), .inr ⟨r', cur', rfl, u4.blk hb' (by simp), hlt'⟩⟩⟩, K.blk_cell (u.blk X9_7.out (by simp)) 0, K.blk_cell (u.blk X12_7.out (by simp)) 0, by omega, by omega, ?_⟩
              have hm : P.getD (i - 1) [] ∈ P := by
                rw [List.getD_eq_getElem?_getD, List.getElem?_eq_getElem (by omega)]
                exact List.getElem_mem _
              have h2 : (P.getD (i - 1) []).length ≤ P.flatten.length := (List.sublist_flatten_of_mem hm).length_le
              have := PLEN.out
              omega))
            have hex : ∃ t, t < n ∧ (decide ((L.getD t noKV).1.ref ∈ P.getD (i - 1) []) && decide (x ∈ (L.getD t noKV).1.refs)) = true := by
              have hz := HZ.out
              obtain ⟨k0, hk0, h1, h2⟩ := SP.out.level (i - 1) (by have := HIP.out; omega) x (by rw [show i - 1 + 1 = i by omega]; exact HQI.out)
              obtain ⟨t, ht, e1⟩ := map_of_mem hk0
              refine ⟨t, by rw [HNL.out]; exact ht, ?_⟩
              rw [e1, decide_eq_true h1, decide_eq_true h2]
              rfl
            have CT := hid (fun wz (u : Upd [] w7 wz) => contains21 (X6 := X6) (X9 := X9) (X12 := X12) (fun t => decide ((L.getD t noKV).1.ref ∈ P.getD (i - 1) []) && decide (x ∈ (L.getD t noKV).1.refs)) (fun t ht wy uy => clos21 (L.getD t noKV) ((AS.out wz u).new uy) ((((HR7.out t (by rw [← HNL.out]; exact ht)).1).new u).new uy) (HR7.out t (by rw [← HNL.out]; exact ht)).2) (own_new HO7.out u) HNL.out (by omega) HV.out hex)
            clear hex
            go_upto_region 17 with (fail)
            go_quiet (fail)
            go_wp2_with fail
            refine (CT.out _ ((Upd.refl [] w7).drewN nq)).mono ?_
            rintro e w8 ⟨rfl, hu8⟩
            have U78 := hid (((Upd.refl [] w7).drewN nq).trans hu8 (fun t ht => by cases ht))
            clear hu8
            go_wp2_with fail
            go_roundg (nqq - (j + 1))
            case measure => have := Hj.out; have := HJ.out; omega
            case rel =>
              obtain ⟨t2, v2, e2, h1, h2, h3, h4, h5⟩ := REL.out _ U78.out
              exact ⟨j + 1, t2, by go_num, HJ.out, hid (Nat.add_sub_of_le HJ.out), hid h1, hid (by rw [← e2]; exact h3), hid h4, hid (by rw [← e2]; exact h5)⟩
        · have hnj : ¬ (j : Int) < (nqq : Int) := by omega
          have et := hid (show told' = G ++ (P.take (i + 1)).flatten by
            rw [HT'.out, show j = nqq by omega, HNQ.out, List.take_length, HT.out, ETK.out, List.append_assoc])
          go_wp2_with fail
          go_roundg (np - (i + 1))
          case measure => have := Hd.out; have := HIN.out; omega
          case rel => exact ⟨i + 1, told', by go_num, HIN.out, hid (Nat.add_sub_of_le HIN.out), et, HO8, HU⟩
    · have hni : ¬ (i : Int) < (np : Int) := by omega
      have et : told = G ++ P.flatten := by rw [HT.out, show i = np by omega, HNP.out, List.take_length]
      have hs : sortL told = refsOf (L.map (·.1)) := by rw [et, HGG.out]; exact told_sort SP.out ND.out SR.out
      have htl : told.length = n := by
        have := congrArg List.length hs
        rw [sortL_length] at this
        unfold refsOf at this
        rw [List.length_map, ← HNM.out] at this
        exact this
      have SO := hid (sort_own HO8.out (by omega))
      rw [hs] at SO
      obtain ⟨a8, k8, e8, -⟩ := own_view HO8.out
      subst e8
      rw [htl] at SO HO8
      rw [htl]
      clear et hs htl
      go_wp2_with fail
      refine SO.out.mono ?_
      rintro e w9 ⟨rfl, ho9, hu9⟩
      have O9 := hid ho9
      have U9 := hid (HU.out.trans hu9 (fun t ht => .inr (own_ge HO8.out t (by simpa using ht))))
      clear ho9 hu9 SO
      go_wp2_with fail
      go_loopg [91] n (fun d v91 wr => ∃ (t : Nat), v91 = .int .i64 (t : Int) ∧ t ≤ n ∧ Hid (t + d = n) ∧ Hid (Upd [] w9 wr))
      case atStart => exact ⟨0, rfl, by omega, hid (by omega), hid (Upd.refl _ _)⟩
      case round =>
        obtain ⟨t, rfl, ht, Ht, HV⟩ := hrel
        have UV := hid (U9.out.trans HV.out (fun t ht => by cases ht))
        by_cases htn : t < n
        · have ht' : (t : Int) < (n : Int) := by omega
          have htL : t < L.length := by rw [← HNL.out]; exact htn
          have KW := know_at (own_new HO4.out UV.out) (HR4.out.new UV.out) HNL.out
          obtain ⟨g, o, ra, rk, rfl, c0, c1, c2, c3, -, -⟩ := KW t (by rw [List.length_map]; exact htL)
          obtain ⟨x, hx⟩ : ∃ x, x = ((L.map (·.1)).getD t noKnow).ref := ⟨_, rfl⟩
          obtain ⟨aw, haw⟩ : ∃ x, x = ((L.map (·.1)).getD t noKnow).awake := ⟨_, rfl⟩
          obtain ⟨ro, hro⟩ : ∃ x, x = ((L.map (·.1)).getD t noKnow).root := ⟨_, rfl⟩
          obtain ⟨rl, hrl⟩ : ∃ x, x = ((L.map (·.1)).getD t noKnow).refs.length := ⟨_, rfl⟩
          rw [← hx] at c0
          rw [← haw] at c1
          rw [← hro] at c2
          rw [← hrl] at c3
          have htr : t < (refsOf (L.map (·.1))).length := by unfold refsOf; rw [List.length_map, List.length_map]; exact htL
          have hxr : (refsOf (L.map (·.1))).getD t 0 = x := by
            rw [hx]
            unfold refsOf
            rw [List.getD_eq_getElem?_getD, List.getD_eq_getElem?_getD, List.getElem?_map, List.getElem?_eq_getElem (by rw [List.length_map]; exact htL)]
            rfl
          obtain ⟨a9, k9, e9, _, _, hc9⟩ := own_view (own_new O9.out HV.out)
          simp only [Value.slice.injEq] at e9
          obtain ⟨rfl, -, rfl⟩ := e9
          obtain ⟨g9, e9, _, c9, _⟩ := hc9 t _ (ints_get _ t htr)
          subst e9
          rw [hxr] at c9
          have nge : ¬ (n : Int) ≤ (t : Int) := by omega
          have HTN := hid htn
          clear hx haw hro hrl htr hxr hc9 htL KW htn
          go_upto_region 27 with (fail)
          obtain ⟨wb, hwb⟩ : ∃ wb, wb = wr.alloc (.cells #[.int .i64 x, .bool aw, .bool ro, .slice ra rl rk] 31) := ⟨_, rfl⟩
          obtain ⟨X, hX⟩ : ∃ X, X = wr.heap.size := ⟨_, rfl⟩
          have ub : Upd [] wr wb := by rw [hwb]; exact (Upd.refl [] wr).alloc _
          have X0 : wb.cell? ⟨X, 0, none⟩ = some (.int .i64 x) := by rw [hwb, hX]; exact K.blk_cell (K.blk_new wr _) 0
          have UB := hid (HV.out.trans ub (fun t ht => by cases ht))
          rw [← hwb, ← hX]
          replace c9 := ub.cell c9 (by simp)
          clear hwb hX ub c0 c1 c2 c3
          go_quiet (fail)
          go_wp2_with fail
          go_roundg (n - (t + 1))
          case measure => have := Ht.out; have := HTN.out; omega
          case rel => exact ⟨t + 1, by go_num, HTN.out, hid (Nat.add_sub_of_le HTN.out), hid (UB.out.drewN _)⟩
        · have hnt : ¬ (t : Int) < (n : Int) := by omega
          go_wp2_with fail
          go_ret
          exact ⟨by simp, (U4.out.trans U9.out (fun t ht => by cases ht)).trans HV.out (fun t ht => by cases ht)⟩
end Go.Proofs.Ytgocminfohbedaa.Cy
