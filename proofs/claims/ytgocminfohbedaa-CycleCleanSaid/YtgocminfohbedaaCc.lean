/- cycle.Garbage. -/
import Derived.Test.YtgocminfohbedaaCb
namespace Go.Proofs.Ytgocminfohbedaa.Cy
open Go Go.RowKit Go.Proofs.Ytgocminfohbedaa Go.Proofs.Ytgocminfohbedaa.K Go.Proofs.Ytgocminfohbedaa.M Go.Proofs.Ytgocminfohbedaa.O Go.Proofs.Ytgocminfohbedaa.So

/-- Who is never found alive. -/
def dead (l : List Know) (A : List Int) : List Int := (refsOf l).filter (fun x => decide (x ∉ A))
def GarbageOf (w : World) (B : Nat) (v : Value) (l : List Know) : Prop := ∃ P, Spec l P ∧ w.ownsRow B 3 1 v (sortL (dead l P.flatten)).length (ints (sortL (dead l P.flatten)))

set_option maxHeartbeats 16000000 in
set_option maxRecDepth 100000 in
theorem garbage_any {w : World} (a : Option Addr) (l : List Know) (n k : Nat) (hn : n = l.length) (h480 : n ≤ 480) (hd : (refsOf l).Nodup) (hK : KnowAt w a l) :
    Calls Try.prog 10 #[.slice a n k] w fun e w' => ∃ v, e = .returned (.tuple #[v, .int .i64 0]) ∧ GarbageOf w' w.heap.size v l ∧ Upd [] w w' := by
  obtain ⟨i3, hi3, hz3a, hz3b, hz3c⟩ := info_parts info3
  have HI3 := hid hi3
  have HA3 := hid hz3a
  have HB3 := hid hz3b
  have HC3 := hid hz3c
  clear hi3 hz3a hz3b hz3c
  have PS := hid (passes_any a l n k hn h480 hd hK)
  obtain ⟨B, hB⟩ : ∃ B, B = w.heap.size := ⟨_, rfl⟩
  have HBS := hid hB
  rw [← hB]
  have HN := hid hn
  have HD := hid hd
  have HK := hid hK
  clear hn hd hK hB
  have hmm := @run_makeMap Try.prog
  go_enter Try.func10, Try.ntmps10
  go_wp2_with fail
  refine PS.out.mono ?_
  rintro e w1 ⟨v, rfl, ⟨P, us, M, ho1, hr1, hsp⟩, hu1⟩
  obtain ⟨a4, k4, e4, -⟩ := own_view ho1
  subst e4
  have HSP := hid hsp
  have PLEN := hid (show P.flatten.length ≤ n by
    have := nodup_le hsp.nodup hsp.mem
    unfold refsOf at this
    rw [List.length_map, ← HN.out] at this
    exact this)
  have PL := hid (show P.length ≤ n by have := flat_len hsp.ne; have := PLEN.out; omega)
  obtain ⟨b2, hb2⟩ : ∃ b2, b2 = w1.heap.size := ⟨_, rfl⟩
  have HB2 := hid hb2
  have BB2 := hid (show B ≤ b2 by have := hu1.size; have := HBS.out; omega)
  obtain ⟨w2, hw2⟩ : ∃ w2, w2 = w1.alloc (.map #[] 0) := ⟨_, rfl⟩
  have uu : Upd [] w1 w2 := by rw [hw2]; exact (Upd.refl [] w1).alloc _
  have O2 := hid (own_new ho1 uu)
  have R2 := hid (hr1.new uu)
  have MB2 := hid (show MapB w2 b2 ([] : List Int) by rw [hw2, hb2]; exact MapB.nil w1)
  have U2 := hid (hu1.trans uu (fun t ht => by cases ht))
  obtain ⟨np, hnp⟩ : ∃ np, np = P.length := ⟨_, rfl⟩
  rw [← hnp] at PL
  have hpl := PL.out
  rw [← hnp]
  have HNP := hid hnp
  clear hsp ho1 hr1 hu1 PS uu hnp
  go_upto_region 5 with (fail)
  rw [← hb2, ← hw2]
  clear hb2 hw2
  go_wp2_with fail
  go_loopg [25] np (fun d v25 wr => ∃ (i : Nat), v25 = .int .i64 (i : Int) ∧ i ≤ np ∧ Hid (i + d = np) ∧ Hid (RowsAt wr us P M) ∧ Hid (wr.ownsRow B 22 1 (.slice a4 np k4) np us) ∧ Hid (MapB wr b2 ((P.take i).flatten)) ∧ Hid (Upd [] w wr))
  case atStart => exact ⟨0, rfl, by omega, hid (by omega), R2, hid (by rw [HNP.out, HBS.out]; exact O2.out), hid (by simpa using MB2.out), U2⟩
  case round =>
    clear R2 MB2 U2 O2
    obtain ⟨i, rfl, hi, Hd, HR, HO, HM, HU⟩ := hrel
    by_cases hin : i < np
    · have hi' : (i : Int) < (np : Int) := by omega
      obtain ⟨r, kr, cur, eu, hb, hrow, hlt⟩ := HR.out.2 i (by rw [← HNP.out]; exact hin)
      obtain ⟨p, hp⟩ : ∃ p, p = P.getD i [] := ⟨_, rfl⟩
      rw [← hp] at eu hrow
      have cs : ∃ x, a4 = some ⟨x, 0, none⟩ ∧ wr.cell? ⟨x, i, none⟩ = some (.slice (some ⟨r, 0, none⟩) p.length kr) := by
        obtain ⟨a5, k5, e5, _, _, hc⟩ := own_view HO.out
        simp only [Value.slice.injEq] at e5
        obtain ⟨rfl, _, _⟩ := e5
        have hul : i < us.length := by rw [HR.out.1, ← HNP.out]; exact hin
        obtain ⟨x, ex, _, c, _⟩ := hc i (us.getD i undef) (by rw [List.getD_eq_getElem?_getD, List.getElem?_eq_getElem hul]; rfl)
        rw [eu] at c
        exact ⟨x, ex, c⟩
      obtain ⟨x4, rfl, c4⟩ := cs
      have hpf : p.length ≤ n := by
        have h1 : p ∈ P := by
          rw [hp, List.getD_eq_getElem?_getD, List.getElem?_eq_getElem (by rw [← HNP.out]; exact hin)]
          exact List.getElem_mem _
        have h2 : p.length ≤ P.flatten.length := (List.sublist_flatten_of_mem h1).length_le
        have := PLEN.out
        omega
      obtain ⟨nq, hnq⟩ : ∃ nq, nq = p.length := ⟨_, rfl⟩
      rw [← hnq] at c4 hpf
      have HNQ := hid hnq
      have etk : (P.take (i + 1)).flatten = (P.take i).flatten ++ p := by
        rw [List.take_add_one, List.flatten_append, hp, List.getD_eq_getElem?_getD, List.getElem?_eq_getElem (by rw [← HNP.out]; exact hin)]
        simp
      have ETK := hid etk
      have HROW := hid (⟨hrow, hb⟩ : IntRow wr (some ⟨r, 0, none⟩) p ∧ wr.heap[r]? = some (.cells cur 3 (0, 0)))
      have HIN := hid hin
      clear eu hb hrow hlt hp hnq etk
      go_wp2_with fail
      go_loopg [31] nq (fun d v31 wr => ∃ (j : Nat), v31 = .int .i64 (j : Int) ∧ j ≤ nq ∧ Hid (j + d = nq) ∧ Hid (RowsAt wr us P M) ∧ Hid (wr.ownsRow B 22 1 (.slice (some ⟨x4, 0, none⟩) np k4) np us) ∧ Hid (MapB wr b2 ((P.take i).flatten ++ p.take j)) ∧ Hid (IntRow wr (some ⟨r, 0, none⟩) p ∧ wr.heap[r]? = some (.cells cur 3 (0, 0))) ∧ Hid (Upd [] w wr))
      case atStart => exact ⟨0, rfl, by omega, hid (by omega), HR, HO, hid (by simpa using HM.out), HROW, HU⟩
      case round =>
        clear HR HO HM HU HROW c4
        obtain ⟨j, rfl, hj, Hj, HR, HO, HM, HROW, HU⟩ := hrel
        by_cases hjn : j < nq
        · have hj' : (j : Int) < (nq : Int) := by omega
          obtain ⟨xa, e, hc⟩ := HROW.out.1 j (by rw [← HNQ.out]; exact hjn)
          cases e
          rw [addz] at hc
          obtain ⟨y, hy⟩ : ∃ y, y = p.getD j 0 := ⟨_, rfl⟩
          rw [← hy] at hc
          have etk : p.take (j + 1) = p.take j ++ [y] := by
            rw [List.take_add_one, hy, List.getD_eq_getElem?_getD, List.getElem?_eq_getElem (by rw [← HNQ.out]; exact hjn)]; rfl
          have ET := hid etk
          obtain ⟨m, hm, hf⟩ := HM.out
          have HMM := hid hm
          have HF := hid hf
          have HJ := hid hjn
          clear etk hy hm hf
          go_wp2_with (first | (at_mapUpdate; refine wpList_put rfl _ _ _ 58 rfl 3 4 Try.underlying58 Try.underlying3 b2 m rfl HMM.out y (.bool true) rfl rfl ?_; intro w7 hm7 hu7; have HM7 := hid hm7; have U7 := hid hu7; clear hm7 hu7))
          go_roundg (nq - (j + 1))
          case measure => have := Hj.out; have := HJ.out; omega
          case rel =>
            have hrb : r ∉ [b2] := fun hs => by simp at hs; exact HMM.out.ne_cells HROW.out.2 hs.symm
            refine ⟨j + 1, by go_num, HJ.out, hid (Nat.add_sub_of_le HJ.out), hid (HR.out.map HMM.out U7.out), hid (own_map HO.out HMM.out U7.out), hid ?_, hid ⟨introw_keep HROW.out.1 U7.out hrb, U7.out.blk HROW.out.2 hrb⟩, hid (HU.out.trans U7.out (fun a ha => .inr (by simp at ha; subst ha; rw [← HBS.out]; exact BB2.out)))⟩
            rw [ET.out, ← List.append_assoc]
            exact MapB.put HF.out HM7.out
        · have hnj : ¬ (j : Int) < (nq : Int) := by omega
          have ej : p.take j = p := by rw [show j = nq by omega, HNQ.out, List.take_length]
          rw [ej] at HM
          go_wp2_with fail
          go_roundg (np - (i + 1))
          case measure => have := Hd.out; have := HIN.out; omega
          case rel => exact ⟨i + 1, by go_num, HIN.out, hid (Nat.add_sub_of_le HIN.out), HR, HO, hid (by rw [ETK.out]; exact HM.out), HU⟩
    · have hni : ¬ (i : Int) < (np : Int) := by omega
      have ei : P.take i = P := by rw [show i = np by omega, HNP.out, List.take_length]
      rw [ei] at HM
      obtain ⟨A, hA⟩ : ∃ A, A = P.flatten := ⟨_, rfl⟩
      rw [← hA] at HM
      have EA := hid hA
      clear hA ei
      go_wp2_with fail
      go_loopg [11, 41] n (fun d v11 v41 wr => ∃ (i : Nat), v41 = .int .i64 (i : Int) ∧ i ≤ n ∧ Hid (i + d = n) ∧ Hid (wr.ownsRow B 3 1 v11 (dead (l.take i) A).length (ints (dead (l.take i) A))) ∧ Hid (MapB wr b2 A) ∧ Hid (Upd [] w wr))
      case atStart => exact ⟨0, rfl, by omega, hid (by omega), hid (World.ownsRow_nil _ _ _ _), HM, HU⟩
      case round =>
        clear HM HU HR HO
        obtain ⟨i, rfl, hi, Hd, HO, HM, HU⟩ := hrel
        obtain ⟨a11, k11, e11, -⟩ := own_view HO.out
        subst e11
        by_cases hin : i < n
        · have hil : i < l.length := by rw [← HN.out]; exact hin
          obtain ⟨g, o, ra, rk, rfl, c0, c1, c2, c3, -, -⟩ := HK.out.upd HU.out i hil
          obtain ⟨q, hq⟩ : ∃ q, q = dead (l.take i) A := ⟨_, rfl⟩
          rw [← hq] at HO
          rw [← hq]
          obtain ⟨x, hx⟩ : ∃ x, x = (l.getD i noKnow).ref := ⟨_, rfl⟩
          obtain ⟨aw, haw⟩ : ∃ x, x = (l.getD i noKnow).awake := ⟨_, rfl⟩
          obtain ⟨ro, hro⟩ : ∃ x, x = (l.getD i noKnow).root := ⟨_, rfl⟩
          obtain ⟨rl, hrl⟩ : ∃ x, x = (l.getD i noKnow).refs.length := ⟨_, rfl⟩
          have hst : dead (l.take (i + 1)) A = if x ∈ A then q else q ++ [x] := by
            rw [take_snoc l i hil]
            unfold dead refsOf at hq ⊢
            rw [List.map_append, List.filter_append, ← hq, show List.map (fun k : Know => k.ref) [l.getD i noKnow] = [x] by rw [hx]; rfl]
            by_cases c : x ∈ A
            · rw [if_pos c]; simp [c]
            · rw [if_neg c]; simp [c]
          have hql : q.length ≤ n := by
            rw [hq]
            unfold dead refsOf
            refine Nat.le_trans (List.length_filter_le _ _) ?_
            rw [List.length_map, List.length_take]
            omega
          rw [← hx] at c0
          rw [← haw] at c1
          rw [← hro] at c2
          rw [← hrl] at c3
          have hi' : (i : Int) < (n : Int) := by omega
          have HST := hid hst
          have HQ := hid hq
          have HIN := hid hin
          clear hx haw hro hrl hst hq hin hil
          go_upto_region 18 with (fail)
          obtain ⟨wb, hwb⟩ : ∃ wb, wb = wr.alloc (.cells #[.int .i64 x, .bool aw, .bool ro, .slice ra rl rk] 31) := ⟨_, rfl⟩
          obtain ⟨X, hX⟩ : ∃ X, X = wr.heap.size := ⟨_, rfl⟩
          have UB := hid (show Upd [] wr wb by rw [hwb]; exact (Upd.refl [] wr).alloc _)
          have XB := hid (show wb.heap[X]? = some (.cells #[.int .i64 x, .bool aw, .bool ro, .slice ra rl rk] 31 (0, 0)) by rw [hwb, hX]; exact K.blk_new wr _)
          have X0 : wb.cell? ⟨X, 0, none⟩ = some (.int .i64 x) := K.blk_cell XB.out 0
          rw [← hwb, ← hX]
          have OB := hid (own_new HO.out UB.out)
          have MB := hid (HM.out.upd UB.out (by simp))
          have UW := hid (HU.out.trans UB.out (fun t ht => by cases ht))
          have SB := hid (show B ≤ wb.heap.size by have := UW.out.size; have := HBS.out; omega)
          have LK := MB.out.look x
          clear hwb hX c0 c1 c2 c3
          by_cases hxa : x ∈ A
          · rw [decide_eq_true hxa] at LK
            have HST2 := hid (HST.out.trans (if_pos hxa))
            clear hxa
            go_wp2_with fail
            go_roundg (n - (i + 1))
            case measure => have := Hd.out; have := HIN.out; omega
            case rel => exact ⟨i + 1, by go_num, HIN.out, hid (Nat.add_sub_of_le HIN.out), hid (by rw [HST2.out]; exact OB.out), MB, UW⟩
          · rw [decide_eq_false hxa] at LK
            have HST2 := hid (HST.out.trans (if_neg hxa))
            clear hxa
            go_wp2_with (first | (at_builtin; refine wpList_app (W := wb) rfl (.tmp 50) (.tmp 53) 22 rfl B 3 i3 _ 1 8 Try.underlying22 HI3.out HA3.out HB3.out HC3.out rfl (by decide) (.slice a11 q.length k11) q.length (ints q) rfl OB.out [.int .i64 x] 3 (by first | rfl | (rw [World.size_alloc]; rfl)) rfl (by intro u hu; simp at hu; subst hu; rfl) (by omega) (by omega) (by have := SB.out; omega) ?_; intro v3 w3 ho3 hu3 hl3; have HO3 := hid ho3; have HU3 := hid hu3; clear ho3 hu3 hl3))
            go_roundg (n - (i + 1))
            case measure => have := Hd.out; have := HIN.out; omega
            case rel => exact ⟨i + 1, by go_num, HIN.out, hid (Nat.add_sub_of_le HIN.out), hid (by rw [HST2.out, List.length_append, ints_snoc]; exact HO3.out), hid (MB.out.own OB.out HU3.out), hid (UW.out.trans HU3.out (fun t ht => .inr (by have := own_ge OB.out t (by simpa using ht); have := HBS.out; omega)))⟩
        · have hni : ¬ (i : Int) < (n : Int) := by omega
          have ei : l.take i = l := by rw [show i = n by omega, HN.out, List.take_length]
          rw [ei] at HO
          rw [ei]
          have hdl : (dead l A).length ≤ 100000 := by
            unfold dead refsOf
            refine Nat.le_trans (List.length_filter_le _ _) ?_
            rw [List.length_map, ← HN.out]
            omega
          have SO := hid (sort_own HO.out hdl)
          clear ei hdl
          go_wp2_with fail
          refine SO.out.mono ?_
          rintro e w9 ⟨rfl, ho9, hu9⟩
          have O9 := hid ho9
          have U9 := hid (HU.out.trans hu9 (fun t ht => .inr (by have := own_ge HO.out t (by simpa using ht); have := HBS.out; omega)))
          clear ho9 hu9 SO
          go_wp2_with fail
          go_ret2
          refine ⟨_, rfl, ⟨P, HSP.out, ?_⟩, U9.out⟩
          rw [← EA.out, sortL_length]
          exact O9.out
end Go.Proofs.Ytgocminfohbedaa.Cy
