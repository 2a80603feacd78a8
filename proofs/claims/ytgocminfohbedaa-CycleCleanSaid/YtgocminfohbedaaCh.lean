/- The walk of the statement CycleSafe. -/
import Derived.Test.YtgocminfohbedaaCg
namespace Go.Proofs.Ytgocminfohbedaa.Cy
open Go Go.RowKit Go.Proofs.Ytgocminfohbedaa Go.Proofs.Ytgocminfohbedaa.K Go.Proofs.Ytgocminfohbedaa.M Go.Proofs.Ytgocminfohbedaa.O Go.Proofs.Ytgocminfohbedaa.So Go.Proofs.Ytgocminfohbedaa.R

theorem dead_up {l : List Know} {P : List (List Int)} (h : Spec l P) {k : Know} (hk : k ∈ l) (hd : k.ref ∈ sortL (dead l P.flatten)) : k.root = false ∧ k.awake = false := by
  have hn := (mem_dead.1 (mem_sort.1 hd)).2
  have : k.up = false := by
    rw [Bool.eq_false_iff]
    intro q
    exact hn (h.up hk q)
  unfold Know.up at this
  rw [Bool.or_eq_false_iff] at this
  exact this
theorem dead_refs {l : List Know} {P : List (List Int)} (h : Spec l P) {k : Know} (hk : k ∈ l) (hd : k.ref ∉ sortL (dead l P.flatten)) {x : Int} (hx : x ∈ k.refs) : x ∉ sortL (dead l P.flatten) := fun q => by
  obtain ⟨q1, q2⟩ := mem_dead.1 (mem_sort.1 q)
  have ha : k.ref ∈ P.flatten := by
    by_cases c : k.ref ∈ P.flatten
    · exact c
    · exact absurd (mem_sort.2 (mem_dead.2 ⟨List.mem_map.2 ⟨k, hk, rfl⟩, c⟩)) hd
  exact q2 (h.closed k hk ha x hx q1)
theorem dead_le (l : List Know) (A : List Int) : (sortL (dead l A)).length ≤ l.length := by
  rw [sortL_length]
  unfold dead refsOf
  refine Nat.le_trans (List.length_filter_le _ _) ?_
  rw [List.length_map]
  exact Nat.le_refl _

set_option maxHeartbeats 16000000 in
set_option maxRecDepth 100000 in
theorem safe_walk (a : Option Addr) (len cap : Nat) (xs : List Int) (w : World) (hx : IntRow w a xs) (hl : xs.length = len) (hlc : len ≤ cap) (hc : cap ≤ 9223372036854775807) :
    Calls Try.prog 3 #[.slice a len cap] w fun e w' => e = .returned (.bool true) ∧ Upd [] w w' := by
  have HX := hid hx
  have HL := hid hl
  have HLC := hid hlc
  have HC := hid hc
  clear hx hl hlc hc
  go_enter Try.func3, Try.ntmps3
  go_wp2_with fail
  refine (begun_true w).mono ?_
  rintro e w1 ⟨rfl, hu⟩
  have U1 := hid hu
  clear hu
  have KN := hid (knows_any a len cap xs w1 (HX.out.upd U1.out) HL.out HLC.out HC.out)
  go_wp2_with fail
  refine KN.out.mono ?_
  rintro e w2 ⟨v, rfl, ⟨L, ho, ⟨M, hr⟩, h40, hf⟩, hu⟩
  obtain ⟨l, hl⟩ : ∃ l, l = L.map (·.1) := ⟨_, rfl⟩
  have hll : l.length = L.length := by rw [hl]; simp
  obtain ⟨al, kl, ev, -⟩ := own_view ho
  subst ev
  obtain ⟨n, hn⟩ : ∃ n, n = L.length := ⟨_, rfl⟩
  have HNL := hid (show n = l.length by rw [hll]; exact hn)
  have KA := hid (show KnowAt w2 al l by rw [hl]; exact know_at ho hr rfl)
  have ND := hid (show (refsOf l).Nodup by rw [hl]; exact refs_inc hf)
  have U2 := hid (U1.out.trans hu (fun x hx => by cases hx))
  rw [← hn]
  have hn40 : n ≤ 40 := by omega
  clear ho hr h40 hf hu hl hll hn KN
  have GA := hid (garbage_any al l n kl HNL.out (by omega) ND.out KA.out)
  go_wp2_with fail
  refine GA.out.mono ?_
  rintro e w3 ⟨vg, rfl, ⟨P, sp, ho⟩, hu⟩
  obtain ⟨G, hG⟩ : ∃ G, G = sortL (dead l P.flatten) := ⟨_, rfl⟩
  rw [← hG] at ho
  have HG := hid hG
  have SP := hid sp
  have OG := hid ho
  have U3 := hid (U2.out.trans hu (fun x hx => by cases hx))
  have K3 := hid (KA.out.upd hu)
  have GL := hid (show G.length ≤ n by rw [hG, HNL.out]; exact dead_le l _)
  obtain ⟨ag, kg, eg, -⟩ := own_view ho
  subst eg
  have SO := hid (sorted_own ho rfl (by have := GL.out; omega) (by rw [hG]; exact sortL_le _))
  clear hG sp ho hu GA KA
  go_wp2_with fail
  refine SO.out.mono ?_
  rintro e w4 ⟨rfl, hu⟩
  have U4 := hid hu
  clear hu SO
  go_wp2_with fail
  go_loopg [28] n (fun d v28 wr => ∃ (i : Nat), v28 = .int .i64 (i : Int) ∧ i ≤ n ∧ Hid (i + d = n) ∧ Hid (Upd [] w3 wr))
  case atStart => exact ⟨0, rfl, by omega, hid (by omega), U4⟩
  case round =>
    clear U4
    obtain ⟨i, rfl, hi, Hd, HU⟩ := hrel
    by_cases hin : i < n
    · have hil : i < l.length := by rw [← HNL.out]; exact hin
      obtain ⟨g, o, ra, rk, rfl, c0, c1, c2, c3, hrow, hr100⟩ := K3.out.upd HU.out i hil
      have hk := getD_mem hil
      obtain ⟨kn, hkn⟩ : ∃ kn, kn = l.getD i noKnow := ⟨_, rfl⟩
      rw [← hkn] at c0 c1 c2 c3 hrow hr100 hk
      obtain ⟨x, aw, ro, rf⟩ := kn
      simp only at c0 c1 c2 c3 hrow hr100
      obtain ⟨nr, hnr⟩ : ∃ nr, nr = rf.length := ⟨_, rfl⟩
      rw [← hnr] at c3 hr100
      have HK := hid hk
      have HNR := hid hnr
      have HROW := hid hrow
      have hi' : (i : Int) < (n : Int) := by omega
      have HIN := hid hin
      clear hkn hk hnr hrow hil hin
      go_upto_region 10 with (fail)
      obtain ⟨wb, hwb⟩ : ∃ wb, wb = wr.alloc (.cells #[.int .i64 x, .bool aw, .bool ro, .slice ra nr rk] 31) := ⟨_, rfl⟩
      obtain ⟨X, hX⟩ : ∃ X, X = wr.heap.size := ⟨_, rfl⟩
      have UB := hid (show Upd [] wr wb by rw [hwb]; exact (Upd.refl [] wr).alloc _)
      have XB := hid (show wb.heap[X]? = some (.cells #[.int .i64 x, .bool aw, .bool ro, .slice ra nr rk] 31 (0, 0)) by rw [hwb, hX]; exact K.blk_new wr _)
      have X0 : wb.cell? ⟨X, 0, none⟩ = some (.int .i64 x) := K.blk_cell XB.out 0
      have X1 : wb.cell? ⟨X, 1, none⟩ = some (.bool aw) := K.blk_cell XB.out 1
      have X2 : wb.cell? ⟨X, 2, none⟩ = some (.bool ro) := K.blk_cell XB.out 2
      have X3 : wb.cell? ⟨X, 3, none⟩ = some (.slice ra nr rk) := K.blk_cell XB.out 3
      rw [← hwb, ← hX]
      have UWB := hid (HU.out.trans UB.out (fun t ht => by cases ht))
      have CN := hid (contains_own (own_new OG.out UWB.out) rfl (by have := GL.out; omega) x)
      clear hwb hX c0 c1 c2 c3
      go_wp2_with fail
      refine CN.out.mono ?_
      rintro e w' ⟨rfl, hw⟩
      have hw' := hw.symm
      subst hw'
      clear hw
      by_cases hg : x ∈ G
      · have hd := dead_up SP.out HK.out (by rw [← HG.out]; exact hg)
        simp only at hd
        rw [hd.1] at X2
        rw [hd.2] at X1
        rw [decide_eq_true hg]
        clear hg hd
        go_wp2_with fail
        go_roundg (n - (i + 1))
        case measure => have := Hd.out; have := HIN.out; omega
        case rel => exact ⟨i + 1, by go_num, HIN.out, hid (Nat.add_sub_of_le HIN.out), UWB⟩
      · rw [decide_eq_false hg]
        have HGN := hid hg
        clear hg
        go_wp2_with fail
        go_loopg [45] nr (fun d v45 wr => ∃ (j : Nat), v45 = .int .i64 (j : Int) ∧ j ≤ nr ∧ Hid (j + d = nr) ∧ Hid (Upd [] wb wr))
        case atStart => exact ⟨0, rfl, by omega, hid (by omega), hid (Upd.refl _ _)⟩
        case round =>
          obtain ⟨j, rfl, hj, Hj, HWR⟩ := hrel
          have UWR := hid (UWB.out.trans HWR.out (fun t ht => by cases ht))
          by_cases hjn : j < nr
          · have hj' : (j : Int) < (nr : Int) := by omega
            have hjl : j < rf.length := by rw [← HNR.out]; exact hjn
            obtain ⟨xa, rfl, hc⟩ := (HROW.out.upd UB.out).upd HWR.out j hjl
            obtain ⟨y, hy⟩ : ∃ y, y = rf.getD j 0 := ⟨_, rfl⟩
            rw [← hy] at hc
            have hyr : y ∈ rf := by
              rw [hy, List.getD_eq_getElem?_getD, List.getElem?_eq_getElem hjl]
              exact List.getElem_mem _
            have hyg : y ∉ G := by
              rw [HG.out]
              exact dead_refs SP.out HK.out (by rw [← HG.out]; exact HGN.out) hyr
            have CM := contains_own (own_new OG.out UWR.out) rfl (by have := GL.out; omega) y
            rw [decide_eq_false hyg] at CM
            have CMH := hid CM
            have HJ := hid hjn
            clear hy hyr hyg CM hjl hjn
            go_wp2_with fail
            refine CMH.out.mono ?_
            rintro e w' ⟨rfl, rfl⟩
            go_wp2_with fail
            go_roundg (nr - (j + 1))
            case measure => have := Hj.out; have := HJ.out; omega
            case rel => exact ⟨j + 1, by go_num, HJ.out, hid (Nat.add_sub_of_le HJ.out), HWR⟩
          · have hnj : ¬ (j : Int) < (nr : Int) := by omega
            go_wp2_with fail
            go_roundg (n - (i + 1))
            case measure => have := Hd.out; have := HIN.out; omega
            case rel => exact ⟨i + 1, by go_num, HIN.out, hid (Nat.add_sub_of_le HIN.out), UWR⟩
    · have hni : ¬ (i : Int) < (n : Int) := by omega
      go_wp2_with fail
      go_ret
      exact ⟨rfl, U3.out.trans HU.out (fun t ht => by cases ht)⟩
end Go.Proofs.Ytgocminfohbedaa.Cy
