/- The walk of the statement CycleClean. -/
import Derived.Test.YtgocminfohbedaaCm
import Derived.Test.YtgocminfohbedaaCh
namespace Go.Proofs.Ytgocminfohbedaa.Cy
open Go Go.RowKit Go.Proofs.Ytgocminfohbedaa Go.Proofs.Ytgocminfohbedaa.K Go.Proofs.Ytgocminfohbedaa.M Go.Proofs.Ytgocminfohbedaa.O Go.Proofs.Ytgocminfohbedaa.So Go.Proofs.Ytgocminfohbedaa.R

theorem filter_both {α : Type} (f : α → Bool) : ∀ L : List α, (L.filter f).length + (L.filter (fun p => !f p)).length = L.length
  | [] => rfl
  | x :: L => by
    have ih := filter_both f L
    cases h : f x with
    | true =>
      rw [List.filter_cons_of_pos h, List.filter_cons_of_neg (by simp [h])]
      simp only [List.length_cons]
      omega
    | false =>
      rw [List.filter_cons_of_neg (by simp [h]), List.filter_cons_of_pos (by simp [h])]
      simp only [List.length_cons]
      omega
theorem mem_left {L : List (Know × Value)} {G : List Int} {k : Know} : k ∈ (L.filter (notIn G)).map (·.1) ↔ k ∈ L.map (·.1) ∧ k.ref ∉ G := by
  constructor
  · intro h
    obtain ⟨p, hp, rfl⟩ := List.mem_map.1 h
    obtain ⟨h1, h2⟩ := List.mem_filter.1 hp
    exact ⟨List.mem_map.2 ⟨p, h1, rfl⟩, by unfold notIn at h2; simpa using h2⟩
  · rintro ⟨h, hg⟩
    obtain ⟨p, hp, rfl⟩ := List.mem_map.1 h
    exact List.mem_map.2 ⟨p, List.mem_filter.2 ⟨hp, by unfold notIn; simpa using hg⟩, rfl⟩
theorem clean_dead {L : List (Know × Value)} {P P' : List (List Int)} {G : List Int} (hG : G = sortL (dead (L.map (·.1)) P.flatten)) (h : Spec (L.map (·.1)) P) (h' : Spec ((L.filter (notIn G)).map (·.1)) P') : dead ((L.filter (notIn G)).map (·.1)) P'.flatten = [] := by
  have alive : ∀ k ∈ L.map (·.1), (k.ref ∉ G ↔ k.ref ∈ P.flatten) := fun k hk => by
    have hm : k.ref ∈ refsOf (L.map (·.1)) := List.mem_map.2 ⟨k, hk, rfl⟩
    rw [hG]
    constructor
    · intro q
      by_cases c : k.ref ∈ P.flatten
      · exact c
      · exact absurd (mem_sort.2 (mem_dead.2 ⟨hm, c⟩)) q
    · intro q r
      exact (mem_dead.1 (mem_sort.1 r)).2 q
  have sub : ∀ x ∈ P.flatten, x ∈ P'.flatten := h.least (C := fun x => x ∈ P'.flatten) (fun k hk hu => h'.up (mem_left.2 ⟨hk, (alive k hk).2 (h.up hk hu)⟩) hu) (fun k hk hc y hy hv => by
    obtain ⟨k2, hk2, e2⟩ := List.mem_map.1 (h'.mem _ hc)
    have hkG : k.ref ∉ G := by rw [← e2]; exact (mem_left.1 hk2).2
    have hyP := h.closed k hk ((alive k hk).1 hkG) y hy hv
    obtain ⟨k3, hk3, e3⟩ := List.mem_map.1 hv
    have hy' : y ∈ refsOf ((L.filter (notIn G)).map (·.1)) := List.mem_map.2 ⟨k3, mem_left.2 ⟨hk3, (alive k3 hk3).2 (by rw [e3]; exact hyP)⟩, e3⟩
    exact h'.closed k (mem_left.2 ⟨hk, hkG⟩) hc y hy hy')
  refine List.eq_nil_iff_forall_not_mem.2 (fun x hx => ?_)
  obtain ⟨q1, q2⟩ := mem_dead.1 hx
  obtain ⟨k, hk, e⟩ := List.mem_map.1 q1
  obtain ⟨hk1, hk2⟩ := mem_left.1 hk
  exact q2 (by rw [← e]; exact sub _ ((alive k hk1).1 hk2))
theorem clean_count {L : List (Know × Value)} {P : List (List Int)} {G : List Int} (hG : G = sortL (dead (L.map (·.1)) P.flatten)) : (L.filter (notIn G)).length + G.length = L.length := by
  have e : G.length = (L.filter (fun p => !notIn G p)).length := by
    have h1 : G.length = (dead (L.map (·.1)) P.flatten).length := by rw [hG, sortL_length]
    rw [h1]
    unfold dead refsOf
    rw [List.map_map, List.filter_map, List.length_map]
    congr 1
    refine List.filter_congr (fun p hp => ?_)
    unfold notIn
    rw [Bool.not_not]
    show decide (p.1.ref ∉ P.flatten) = decide (p.1.ref ∈ G)
    rw [hG]
    refine decide_eq_decide.2 ⟨fun q => mem_sort.2 (mem_dead.2 ⟨List.mem_map.2 ⟨p.1, List.mem_map.2 ⟨p, hp, rfl⟩, rfl⟩, q⟩), fun q => (mem_dead.1 (mem_sort.1 q)).2⟩
  rw [e]
  exact filter_both (notIn G) L

set_option maxHeartbeats 16000000 in
set_option maxRecDepth 100000 in
theorem clean_walk (a : Option Addr) (len cap : Nat) (xs : List Int) (w : World) (hx : IntRow w a xs) (hl : xs.length = len) (hlc : len ≤ cap) (hc : cap ≤ 9223372036854775807) :
    Calls Try.prog 6 #[.slice a len cap] w fun e w' => e = .returned (.bool true) ∧ Upd [] w w' := by
  have HX := hid hx
  have HL := hid hl
  have HLC := hid hlc
  have HC := hid hc
  clear hx hl hlc hc
  go_enter Try.func6, Try.ntmps6
  go_wp2_with fail
  refine (begun_true w).mono ?_
  rintro e w1 ⟨rfl, hu⟩
  have U1 := hid hu
  clear hu
  have KN := hid (knows_any a len cap xs w1 (HX.out.upd U1.out) HL.out HLC.out HC.out)
  go_wp2_with fail
  refine KN.out.mono ?_
  rintro e w2 ⟨v, rfl, ⟨L, ho, ⟨M, hr⟩, h40, hf⟩, hu⟩
  obtain ⟨al, kl, ev, -⟩ := own_view ho
  subst ev
  obtain ⟨n, hn⟩ : ∃ n, n = L.length := ⟨_, rfl⟩
  have KA := hid (know_at ho hr rfl)
  have ND := hid (refs_inc hf)
  have HO := hid ho
  have HR := hid hr
  have U2 := hid (U1.out.trans hu (fun x hx => by cases hx))
  rw [← hn] at HO
  rw [← hn]
  have HNL := hid hn
  have hn40 : n ≤ 40 := by omega
  clear ho hr h40 hf hu hn KN
  have HNM := hid (show n = (L.map (·.1)).length by rw [List.length_map]; exact HNL.out)
  have GA := hid (garbage_any al (L.map (·.1)) n kl HNM.out (by omega) ND.out KA.out)
  go_wp2_with fail
  refine GA.out.mono ?_
  rintro e w3 ⟨vg, rfl, ⟨P, sp, hog⟩, hu⟩
  obtain ⟨G, hG⟩ : ∃ G, G = sortL (dead (L.map (·.1)) P.flatten) := ⟨_, rfl⟩
  rw [← hG] at hog
  have HG := hid hG
  have SP := hid sp
  have GL := hid (show G.length ≤ n by rw [hG]; have := dead_le (L.map (·.1)) P.flatten; rw [List.length_map, ← HNL.out] at this; exact this)
  obtain ⟨ag, kg, eg, -⟩ := own_view hog
  subst eg
  obtain ⟨w4, hw4⟩ : ∃ w4, w4 = w3.alloc (.cells #[.slice ag G.length kg] 22) := ⟨_, rfl⟩
  obtain ⟨X, hX⟩ : ∃ X, X = w3.heap.size := ⟨_, rfl⟩
  have u4 : Upd [] w2 w4 := hu.trans (by rw [hw4]; exact (Upd.refl [] w3).alloc _) (fun t ht => by cases ht)
  have XB := hid (show w4.heap[X]? = some (.cells #[.slice ag G.length kg] 22 (0, 0)) by rw [hw4, hX]; exact K.blk_new w3 _)
  have OG := hid (own_new hog (show Upd [] w3 w4 by rw [hw4]; exact (Upd.refl [] w3).alloc _))
  have HO4 := hid (own_new HO.out u4)
  have HR4 := hid (HR.out.new u4)
  have U4 := hid (U2.out.trans u4 (fun t ht => by cases ht))
  have CLN := hid (clone_know HO4.out HR4.out HNL.out (by omega))
  clear hG sp hog hu u4 GA KA HO HR
  go_upto_region 5 with (fail)
  rw [← hw4, ← hX]
  clear hw4 hX
  go_wp2_with fail
  refine CLN.out.mono ?_
  rintro e w5 ⟨v5, rfl, ho5, hu5⟩
  have HR5 := hid (HR4.out.new hu5)
  have XB5 := hid (hu5.blk XB.out (by simp))
  have OG5 := hid (own_new OG.out hu5)
  have U5 := hid (U4.out.trans hu5 (fun t ht => by cases ht))
  have W45 := hid (show w.heap.size ≤ w4.heap.size from U4.out.size)
  have DL := hid (delete_know ho5 HR5.out HNL.out (by omega) XB5.out OG5.out (by have := GL.out; omega))
  obtain ⟨a5, k5, e5, -⟩ := own_view ho5
  subst e5
  have O5 := hid ho5
  clear ho5 hu5 CLN
  go_wp2_with fail
  refine DL.out.mono ?_
  rintro e w6 ⟨v6, rfl, ho6, hu6⟩
  obtain ⟨left, hleft⟩ : ∃ left, left = L.filter (notIn G) := ⟨_, rfl⟩
  rw [← hleft] at ho6
  have HLF := hid hleft
  obtain ⟨n6, hn6⟩ : ∃ n6, n6 = left.length := ⟨_, rfl⟩
  have CNT := hid (show n6 + G.length = n by rw [hn6, hleft, HNL.out]; exact clean_count HG.out)
  have HR6 := hid (show RefsAt w6 left M from (HR5.out.keep hu6 (fun r cur _ hb hs => own_cells_ne O5.out hb (by decide) r (by simpa using hs) rfl) (Nat.le_refl _)).sub (fun p hp => by rw [hleft] at hp; exact (List.mem_filter.1 hp).1))
  have XB6 := hid (hu6.blk XB5.out (fun hs => own_cells_ne O5.out XB5.out (by decide) X (by simpa using hs) rfl))
  have U6 := hid (U5.out.trans hu6 (fun t ht => .inr (Nat.le_trans W45.out (own_ge O5.out t (by simpa using ht)))))
  have ND6 := hid (show (refsOf (left.map (·.1))).Nodup from by
    refine ND.out.sublist ?_
    rw [hleft]
    exact ((List.filter_sublist).map _).map _)
  obtain ⟨a6, k6, e6, -⟩ := own_view ho6
  subst e6
  have KA6 := know_at ho6 HR6.out rfl
  rw [← hn6] at ho6
  have h6n : n6 ≤ 40 := by have := CNT.out; omega
  have GA6 := hid (garbage_any a6 (left.map (·.1)) n6 k6 (by rw [List.length_map]; exact hn6) (by omega) ND6.out KA6)
  rw [← hn6]
  clear ho6 hu6 hleft KA6 DL hn6
  go_wp2_with fail
  refine GA6.out.mono ?_
  rintro e w7 ⟨vh, rfl, ⟨P', sp', hoh⟩, hu7⟩
  have hde : dead (left.map (·.1)) P'.flatten = [] := by
    rw [HLF.out] at sp' ⊢
    exact clean_dead HG.out SP.out sp'
  rw [hde] at hoh
  have hs0 : sortL ([] : List Int) = [] := by simp [sortL]
  rw [hs0] at hoh
  obtain ⟨ah, kh, eh, -⟩ := own_view hoh
  subst eh
  have xc : w7.cell? ⟨X, 0, none⟩ = some (.slice ag G.length kg) := K.blk_cell (hu7.blk XB6.out (by simp)) 0
  have U7 := hid (U6.out.trans hu7 (fun t ht => by cases ht))
  obtain ⟨ng, hng⟩ : ∃ ng, ng = G.length := ⟨_, rfl⟩
  rw [← hng] at xc
  have hsum : IntKind.i64.wrap ((n6 : Int) + (ng : Int)) = (n : Int) := by
    have := CNT.out
    rw [IntWalk.i64_in _ (by omega)]
    omega
  clear hoh hu7 hde hs0 sp' GA6 hng
  go_wp2_with fail
  go_ret
  exact ⟨rfl, U7.out⟩
end Go.Proofs.Ytgocminfohbedaa.Cy
