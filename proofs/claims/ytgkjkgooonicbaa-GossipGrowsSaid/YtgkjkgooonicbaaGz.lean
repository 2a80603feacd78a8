/- The walk of the statement GossipGrows. -/
import Derived.Test.YtgkjkgooonicbaaGw
namespace Go.Proofs.Ytgkjkgooonicbaa.Gs
open Go Go.RowKit Go.Proofs.Ytgkjkgooonicbaa Go.Proofs.Ytgkjkgooonicbaa.K Go.Proofs.Ytgkjkgooonicbaa.M Go.Proofs.Ytgkjkgooonicbaa.O Go.Proofs.Ytgkjkgooonicbaa.R

/-- What is said later is no less. -/
def More (x r : Row) : Prop := x.node = r.node ∧ (x.turn < r.turn ∨ (x.turn = r.turn ∧ x.says ≤ r.says))
theorem More.refl (x : Row) : More x x := ⟨rfl, .inr ⟨rfl, Nat.le_refl _⟩⟩
theorem More.trans {x y z : Row} (h : More x y) (k : More y z) : More x z := by
  unfold More at *
  omega
def MoreL (n : Nat) (l m : List Row) : Prop := ∀ k, k < n → More (l.getD k noRow) (m.getD k noRow)
theorem comb_more {me : Nat} {x r : Row} (hn : x.node = r.node) (ht : x.turn ≤ 1099511627776) (ho : r.node = me → x.says = 1) : More x (comb me x r) := by
  unfold comb
  split
  · rename_i h
    unfold newer at h
    rw [decide_eq_true_iff] at h
    split
    · rename_i q
      have := ho q
      split
      · exact ⟨hn, by omega⟩
      · exact ⟨by simp only; omega, by simp only; omega⟩
    · exact ⟨hn, by omega⟩
  · exact More.refl x
theorem more_dbt {n i k : Nat} {s : G} (h : Ok n i s) (hk : k < n) (hs : (s.rows.getD k noRow).says = 1) : MoreL n s.rows (dbt s k).rows := fun j hj => by
  show More _ ((sayAt s.rows k 2).getD j noRow)
  rw [sayAt_get _ _ _ _ (by rw [h.full.1]; exact hk)]
  split
  · rename_i e
    subst e
    exact ⟨rfl, .inr ⟨rfl, by rw [hs]; simp⟩⟩
  · exact More.refl _
theorem more_tck {n i : Nat} {s : G} (h : Ok n i s) : MoreL n s.rows (tck s).rows := fun j hj => by
  obtain ⟨h1, h2⟩ := h.tck
  exact ⟨by rw [h.full.2 j hj, h1.full.2 j hj], .inr ⟨(h2 j).1.symm, (h2 j).2⟩⟩
theorem more_merge {n i : Nat} {s : G} (h : Ok n i s) {l : List Row} (hf : Full n l) : MoreL n s.rows (gmerge s l).rows := fun j hj => by
  obtain ⟨g1, -⟩ := gmerge_rmerge l s
  obtain ⟨m1, m2, m3⟩ := h.full.pre.merged hf s.me
  rw [g1, m3 j, if_pos hj]
  refine comb_more (by rw [h.full.2 j hj, hf.2 j hj]) ((h.wf.2.2 j (by rw [h.full.1]; exact hj)).2.2.1) (fun q => ?_)
  have : j = i := by rw [hf.2 j hj, h.me] at q; omega
  subst this
  exact h.own
theorem ok_upf' {n i0 : Nat} {s : Nat → G} (h : ∀ i, i < n → Ok n i (s i)) {s' : G} (hs : Ok n i0 s') : ∀ i, i < n → Ok n i (upf s i0 s' i) := fun i hi => by
  by_cases e : i = i0
  · subst e; rw [upf_at]; exact hs
  · rw [upf_ne _ _ _ _ e]; exact h i hi
/-- All nodes say no less than they said. -/
def Up (n : Nat) (was s : Nat → G) : Prop := (∀ i, i < n → Ok n i (s i)) ∧ ∀ i, i < n → MoreL n (was i).rows (s i).rows
theorem Up.step {n i : Nat} {was s : Nat → G} (h : Up n was s) (hi : i < n) {s' : G} (ho : Ok n i s') (hm : MoreL n (s i).rows s'.rows) : Up n was (upf s i s') := by
  refine ⟨ok_upf' h.1 ho, fun k hk j hj => ?_⟩
  by_cases e : k = i
  · subst e; rw [upf_at]; exact (h.2 _ hi j hj).trans (hm j hj)
  · rw [upf_ne _ _ _ _ e]; exact h.2 k hk j hj
theorem Up.refl {n : Nat} {s : Nat → G} (h : ∀ i, i < n → Ok n i (s i)) : Up n s s := ⟨h, fun _i _ _j _ => More.refl _⟩
theorem info61 : (Try.prog.info? 61).map (fun i => (i.zero, i.size, i.bytes)) = some (some (.slice none 0 0), 1, 24) := by kernel_rfl
theorem make3 : ∀ w, (Instr.makeSlice 60 (.int .i64 3) (.int .i64 3)).run Try.prog w = .ok (.slice (some ⟨w.heap.size, 0, none⟩) 3 3) (w.alloc (.cells #[.slice none 0 0, .slice none 0 0, .slice none 0 0] 61)) := fun w => by
  obtain ⟨i61, hi, hz0, hz1, hz2⟩ := info_parts info61
  have := run_makeSlice (P := Try.prog) (w := w) 60 61 i61 _ Try.underlying60 hi hz0 .i64 .i64 3 3 (by decide) (by decide) (by rw [hz1]; decide) (by rw [hz2]; decide) (by decide)
  rw [this, hz1]
  have e : madeCells (Value.cells (.slice none 0 0)) (Int.toNat 3 * 1) = #[.slice none 0 0, .slice none 0 0, .slice none 0 0] := by
    apply Array.ext'
    rw [show (Value.slice none 0 0).cells = #[.slice none 0 0] from rfl, toList_madeCells_one]
    rfl
  rw [e]; rfl
/-- The cells of the slice of copies, the first j of them made. -/
def wc (j : Nat) (rr kk : Nat → Nat) (k : Nat) : Value := if k < j then .slice (some ⟨rr k, 0, none⟩) 3 (kk k) else .slice none 0 0

set_option maxHeartbeats 16000000 in
set_option maxRecDepth 100000 in
theorem grows_walk (a : Option Addr) (len cap : Nat) (xs : List Int) (w : World) (hx : IntRow w a xs) (hl : xs.length = len) (hlc : len ≤ cap) (hc : cap ≤ 9223372036854775807) :
    Calls Try.prog 8 #[.slice a len cap] w fun e w' => e = .returned (.bool true) ∧ Upd [] w w' := by
  have HX := hid hx
  have HL := hid hl
  clear hx hl
  obtain ⟨m, hm⟩ : ∃ m : Nat, min (len : Int) 100 = (m : Int) := ⟨min len 100, by omega⟩
  have hmin := fun ats ty => min_nat ats ty .i64 .i64 (len : Int) 100 m hm
  have hm1 : m ≤ len := by omega
  have hm2 : m ≤ 100 := by omega
  clear hm
  go_enter Try.func8, Try.ntmps8
  go_wp2_with fail
  refine (begun_true w).mono ?_
  rintro e w1 ⟨rfl, hu⟩
  have U1 := hid hu
  clear hu
  have GA := hid (gossips_any 3 2 w1 (by decide) (by decide) (by omega) (by omega))
  go_wp2_with fail
  refine GA.out.mono ?_
  rintro e w2 ⟨v, g, s, rfl, ho, hn, hb, hu⟩
  obtain ⟨q, k, e, -⟩ := ptr_at ho (i := 0) (by decide)
  subst e
  obtain ⟨B, hB⟩ : ∃ B, B = w1.heap.size := ⟨_, rfl⟩
  rw [← hB] at ho hn
  have U2 := hid (U1.out.trans hu (fun x hx => by cases hx))
  have hBw2 : B ≤ w2.heap.size := by rw [hB]; exact hu.size
  have HBW := hid hBw2
  have HWB := hid (show w.heap.size ≤ B by rw [hB]; exact U1.out.size)
  have HO := hid ho
  have HN := hid hn
  have HK := hid (fun i (hi : i < 3) => Ok.begun (hb i hi) hi (by decide) (by decide) (by decide))
  clear ho hn hb hu GA hB hBw2
  have hms := make3
  go_wp2_with fail
  go_loopg [29] m (fun d v29 wr => ∃ (i : Nat) (s : Nat → G), v29 = .int .i64 (i : Int) ∧ i ≤ m ∧ Hid (i + d = m) ∧ Hid (Net B [q] 3 wr g s) ∧ Hid (∀ i, i < 3 → Ok 3 i (s i)) ∧ Hid (Far B [q] w2 wr))
  case atStart => exact ⟨0, s, rfl, by omega, hid (by omega), HN, HK, hid (Far.refl _ _ _)⟩
  case round =>
    clear HN HK
    obtain ⟨i, s, rfl, hi, Hd, HN, HK, HF⟩ := hrel
    have OW := hid (HF.out.own HO.out (fun x hx => by simp [Value.ownBlock] at hx; simp [hx]))
    have HBR := hid (show B ≤ wr.heap.size by have := HF.out.size; have := HBW.out; omega)
    by_cases him : i < m
    · have hi' : (i : Int) < (m : Int) := by omega
      obtain ⟨W, hW⟩ : ∃ W, W = wr.heap.size := ⟨_, rfl⟩
      go_wp2_with fail
      rw [← hW]
      have HWs := hid hW
      have qW := hid (show q < W by have := own_lt OW.out q rfl; omega)
      have BW := hid (show B ≤ W by have := HBR.out; omega)
      clear hW
      go_loopg [37] 3 (fun d v37 wz => ∃ (j : Nat) (rr kk : Nat → Nat) (Z : List Nat), v37 = .int .i64 (j : Int) ∧ j ≤ 3 ∧ Hid (j + d = 3) ∧ Hid (wz.heap[W]? = some (.cells #[wc j rr kk 0, wc j rr kk 1, wc j rr kk 2] 61 (0, 0))) ∧ Hid (∀ l, l < j → RowAt wz (some ⟨rr l, 0, none⟩) (s l).rows ∧ rr l ∈ Z ∧ W < rr l) ∧ Hid (q ∈ Z ∧ W ∈ Z) ∧ Hid (Net B Z 3 wz g s) ∧ Hid (Far B [q] w2 wz))
      case atStart =>
        have u0 : Upd [] wr (wr.alloc (.cells #[.slice none 0 0, .slice none 0 0, .slice none 0 0] 61)) := (Upd.refl [] wr).alloc _
        refine ⟨0, fun _ => 0, fun _ => 0, [q, W], rfl, by omega, hid (by omega), hid ?_, hid (fun l hl => by omega), hid ⟨by simp, by simp⟩, hid (HN.out.turn u0 (fun x hx => by cases hx) (fun z hz => ?_)), hid (HF.out.trans (Far.of_nil u0))⟩
        · rw [HWs.out]; exact K.blk_new wr _
        · have hs : (wr.alloc (.cells #[.slice none 0 0, .slice none 0 0, .slice none 0 0] 61)).heap.size = wr.heap.size + 1 := by show (wr.heap.push _).size = _; simp
          have := qW.out
          have := HWs.out
          simp at hz
          rcases hz with rfl | rfl
          · exact ⟨.inl (by simp), by omega⟩
          · exact ⟨.inr (by omega), by omega⟩
      case round =>
        clear HN HF
        obtain ⟨j, rr, kk, Z, rfl, hj, Hj, HWK, HRR, HZ, HN, HF⟩ := hrel
        by_cases hj3 : j < 3
        · have hj' : (j : Int) < 3 := by omega
          obtain ⟨q', k', e, c1⟩ := ptr_at (HF.out.own HO.out (fun x hx => by simp [Value.ownBlock] at hx; simp [hx])) hj3
          cases e
          have WFj := hid (HK.out j hj3).wf
          go_wp2_with fail
          refine (net_state HN.out hj3 WFj.out).mono ?_
          rintro e w6 ⟨r6, k6, rfl, ho6, hn6, hu6⟩
          have A6 := hid (rowAt_own ho6)
          have G6 := hid (own_ge ho6 r6 rfl)
          have L6 := hid (own_lt ho6 r6 rfl)
          have N6 := hid hn6
          have HU6 := hid hu6
          have WB6 := hid (hu6.blk HWK.out (by simp))
          clear ho6 hn6 hu6 c1
          have hr3 : (s j).rows.length = 3 := (HK.out j hj3).full.1
          rw [hr3]
          have cW : ∃ x, w6.cell? ⟨W, j, none⟩ = some x := by
            have : j = 0 ∨ j = 1 ∨ j = 2 := by omega
            rcases this with rfl | rfl | rfl <;> exact ⟨_, K.blk_cell WB6.out _⟩
          obtain ⟨cx, cW⟩ := cW
          have fW := K.blk_frozen WB6.out j
          clear hr3
          go_wp2_with fail
          go_roundg (3 - (j + 1))
          case measure => have := Hj.out; omega
          case rel =>
            obtain ⟨w7, hw7⟩ : ∃ w7, w7 = w6.setCell ⟨W, j, none⟩ (.slice (some ⟨r6, 0, none⟩) 3 k6) := ⟨_, rfl⟩
            have us : Upd [W] w6 w7 := by rw [hw7]; exact (Upd.refl _ w6).setCell (.inl (by simp)) _
            have hWlt := K.blk_lt HWK.out
            have hg6 := G6.out
            rw [← hw7]
            refine ⟨j + 1, upf rr j r6, upf kk j k6, r6 :: Z, by go_num, by omega, hid (by omega), hid ?_, hid (fun l hl => ?_), hid ⟨List.mem_cons_of_mem _ HZ.out.1, List.mem_cons_of_mem _ HZ.out.2⟩, hid (N6.out.turn us (fun x hx => by simp at hx; subst hx; exact List.mem_cons_of_mem _ HZ.out.2) (fun z hz => ⟨.inl hz, by have := N6.out.zlt z hz; have := us.size; omega⟩)), hid ((HF.out.trans (Far.of_nil HU6.out)).trans ⟨[W], us, fun z hz hs => by simp at hz hs; have := qW.out; omega, fun x hx => by simp at hx; subst hx; exact BW.out⟩)⟩
            · rw [hw7]
              refine (K.blk_set WB6.out j _).trans ?_
              have : j = 0 ∨ j = 1 ∨ j = 2 := by omega
              rcases this with rfl | rfl | rfl <;> simp [wc, upf]
            · by_cases e : l = j
              · subst e
                rw [upf_at]
                exact ⟨A6.out.upd us (fun x o e => by cases e; simp; omega), by simp, by omega⟩
              · rw [upf_ne _ _ _ _ e]
                obtain ⟨p1, p2, p3⟩ := HRR.out l (by omega)
                exact ⟨(p1.upd HU6.out (fun _ _ _ h => by cases h)).upd us (fun x o e => by cases e; simp; omega), List.mem_cons_of_mem _ p2, p3⟩
        · have hnj : ¬ (j : Int) < 3 := by omega
          have ej : j = 3 := by omega
          subst ej
          have OWX := hid (HF.out.own HO.out (fun x hx => by simp [Value.ownBlock] at hx; simp [hx]))
          have HIX := hid (show i < xs.length by rw [HL.out]; omega)
          have CH := hid (chatter_any (by decide) (by decide) (fun _ s' => Up 3 s s') (fun _ _ h => h.1) (fun _ _ h => h) (fun _ s' i0 k0 h hi hk hki hs => h.step hi ((h.1 _ hi).dbt hk hki) (more_dbt (h.1 _ hi) hk hs)) (fun _ s' i0 h hi => h.step hi (h.1 _ hi).tck.1 (more_tck (h.1 _ hi))) (fun _ s' i0 j0 h hi hj => h.step hi ((h.1 _ hi).merge hi (by decide) (h.1 _ hj).wf (h.1 _ hj).full) (more_merge (h.1 _ hi) (h.1 _ hj).full)) (t0 := 0) HN.out (Up.refl HK.out) (by have := HF.out.size; have := HBW.out; omega) (q := q) (k := k) HZ.out.1 OWX.out (a := Option.map (fun x => x.add i) a) (len := 1) (cap := cap - i) (xs := [xs.getD i 0]) (fun wz f => by
            have hX := HX.out.upd ((HF.out.trans (f.mono (fun z hz => by simp at hz; subst hz; exact HZ.out.1))).upd_le HWB.out U2.out)
            intro l hl
            have : l = 0 := by simp at hl; omega
            subst this
            obtain ⟨x, e, c⟩ := hX i HIX.out
            refine ⟨x.add i, by rw [e]; rfl, ?_⟩
            rw [show (x.add i).add 0 = x.add i by simp [Addr.add]]
            exact c) rfl (by omega) (by omega))
          go_wp2_with fail
          refine CH.out.mono ?_
          rintro e w8 ⟨rfl, s8, n8, up8, f8⟩
          have N8 := hid n8
          have UP8 := hid up8
          have F8 := hid (HF.out.trans (f8.mono (Z' := [q]) (fun z hz => by simp at hz; subst hz; exact HZ.out.1)))
          have WB8 := hid (show w8.heap[W]? = some (.cells #[wc 3 rr kk 0, wc 3 rr kk 1, wc 3 rr kk 2] 61 (0, 0)) by
            obtain ⟨S, u, hz, -⟩ := f8
            exact u.blk HWK.out (hz W HZ.out.2))
          have RR8 := hid (fun l (hl : l < 3) => (show RowAt w8 (some ⟨rr l, 0, none⟩) (s l).rows by
            obtain ⟨S, u, hz, -⟩ := f8
            exact (HRR.out l hl).1.upd u (fun x o e => by cases e; exact hz _ (HRR.out l hl).2.1)))
          have OW8 := hid (F8.out.own HO.out (fun x hx => by simp [Value.ownBlock] at hx; simp [hx]))
          have WC := hid (show ∀ l, l < 3 → wc 3 rr kk l = .slice (some ⟨rr l, 0, none⟩) 3 (kk l) from fun l hl => by unfold wc; rw [if_pos hl])
          clear n8 up8 f8 CH HN HF HWK HRR
          go_wp2_with fail
          go_loopg [58] 3 (fun d v58 wz => ∃ (kx : Nat), v58 = .int .i64 (kx : Int) ∧ kx ≤ 3 ∧ Hid (kx + d = 3) ∧ Hid (Upd [] w8 wz))
          case atStart => exact ⟨0, rfl, by omega, hid (by omega), hid (Upd.refl _ _)⟩
          case round =>
            obtain ⟨kx, rfl, hkx, Hk, HU⟩ := hrel
            by_cases hk3 : kx < 3
            · have hk' : (kx : Int) < 3 := by omega
              obtain ⟨q', k', e, c1⟩ := ptr_at (own_new OW8.out HU.out) hk3
              cases e
              have OK8 := hid (UP8.out.1 kx hk3)
              have hr3 : (s8 kx).rows.length = 3 := OK8.out.full.1
              have ST := hid (net_state (N8.out.new HU.out) hk3 OK8.out.wf)
              rw [hr3] at ST
              have HR3 := hid hr3
              clear hr3
              go_wp2_with fail
              refine ST.out.mono ?_
              rintro e w9 ⟨r9, k9, rfl, ho9, -, hu9⟩
              have A9 := hid (show RowAt w9 (some ⟨r9, 0, none⟩) (s8 kx).rows by
                refine rowAt_own (B := wr.heap.size) (n := 3) (k := k9) ?_
                rw [HR3.out]; exact ho9)
              have HU9 := hid (HU.out.trans hu9 (fun x hx => by cases hx))
              clear ho9 hu9 ST c1
              have cW : w9.cell? ⟨W, kx, none⟩ = some (.slice (some ⟨rr kx, 0, none⟩) 3 (kk kx)) := by
                rw [← WC.out kx hk3]
                have hb := HU9.out.blk WB8.out (by simp)
                have : kx = 0 ∨ kx = 1 ∨ kx = 2 := by omega
                rcases this with rfl | rfl | rfl <;> exact K.blk_cell hb _
              have HCW := hid cW
              go_wp2_with fail
              go_loopg [75] 3 (fun d v75 wz => ∃ (jx : Nat), v75 = .int .i64 (jx : Int) ∧ jx ≤ 3 ∧ Hid (jx + d = 3) ∧ Hid (Upd [] w9 wz))
              case atStart => exact ⟨0, rfl, by omega, hid (by omega), hid (Upd.refl _ _)⟩
              case round =>
                clear cW
                obtain ⟨jx, rfl, hjx, Hjx, HV⟩ := hrel
                by_cases hx3 : jx < 3
                · have hx' : (jx : Int) < 3 := by omega
                  obtain ⟨g1, o1, e, c0, c1, c2⟩ := A9.out.upd HV.out (fun _ _ _ h => by cases h) jx (by rw [HR3.out]; exact hx3)
                  cases e
                  obtain ⟨g2, o2, e, d0, d1, d2⟩ := (RR8.out kx hk3).upd (HU9.out.trans HV.out (fun x hx => by cases hx)) (fun _ _ _ h => by cases h) jx (by rw [(HK.out kx hk3).full.1]; exact hx3)
                  cases e
                  simp only [Nat.zero_add] at c0 c1 c2 d0 d1 d2
                  have cW := HV.out.cell HCW.out (by simp)
                  obtain ⟨nn, nt⟩ := UP8.out.2 kx hk3 jx hx3
                  rw [← nn] at c0
                  obtain ⟨nd, hnd⟩ : ∃ x, x = ((s kx).rows.getD jx noRow).node := ⟨_, rfl⟩
                  obtain ⟨tn, htn⟩ : ∃ x, x = ((s8 kx).rows.getD jx noRow).turn := ⟨_, rfl⟩
                  obtain ⟨sa, hsa⟩ : ∃ x, x = ((s8 kx).rows.getD jx noRow).says := ⟨_, rfl⟩
                  obtain ⟨tm, htm⟩ : ∃ x, x = ((s kx).rows.getD jx noRow).turn := ⟨_, rfl⟩
                  obtain ⟨sm, hsm⟩ : ∃ x, x = ((s kx).rows.getD jx noRow).says := ⟨_, rfl⟩
                  rw [← hnd] at c0 d0
                  rw [← htn] at c1 nt
                  rw [← hsa] at c2 nt
                  rw [← htm] at d1 nt
                  rw [← hsm] at d2 nt
                  clear nn hnd htn hsa htm hsm
                  have b1 : ¬ (tn : Int) < (tm : Int) := by omega
                  go_upto_region 26 with (fail)
                  obtain ⟨wq, hwq⟩ : ∃ wq, wq = wr.alloc (.cells #[.int .i64 (nd : Int), .int .i64 (tn : Int), .int .i64 (sa : Int)] 65) := ⟨_, rfl⟩
                  obtain ⟨X, hX⟩ : ∃ X, X = wr.heap.size := ⟨_, rfl⟩
                  have uq : Upd [] wr wq := by rw [hwq]; exact (Upd.refl [] wr).alloc _
                  have bx := hid (show wq.heap[X]? = some (.cells #[.int .i64 (nd : Int), .int .i64 (tn : Int), .int .i64 (sa : Int)] 65 (0, 0)) by rw [hwq, hX]; exact K.blk_new wr _)
                  rw [← hwq, ← hX]
                  have VQ := hid (HV.out.trans uq (fun x hx => by cases hx))
                  replace cW := uq.cell cW (by simp)
                  replace d0 := uq.cell d0 (by simp)
                  replace d1 := uq.cell d1 (by simp)
                  replace d2 := uq.cell d2 (by simp)
                  clear hwq hX uq c0 c1 c2
                  go_upto_region 27 with (fail)
                  obtain ⟨wp, hwp⟩ : ∃ wp, wp = wq.alloc (.cells #[.int .i64 (nd : Int), .int .i64 (tm : Int), .int .i64 (sm : Int)] 65) := ⟨_, rfl⟩
                  obtain ⟨Y, hY⟩ : ∃ Y, Y = wq.heap.size := ⟨_, rfl⟩
                  have up : Upd [] wq wp := by rw [hwp]; exact (Upd.refl [] wq).alloc _
                  have bxp := up.blk bx.out (by simp)
                  have byp : wp.heap[Y]? = some (.cells #[.int .i64 (nd : Int), .int .i64 (tm : Int), .int .i64 (sm : Int)] 65 (0, 0)) := by rw [hwp, hY]; exact K.blk_new wq _
                  rw [← hwp, ← hY]
                  have VP := hid (VQ.out.trans up (fun x hx => by cases hx))
                  have x0 : wp.cell? ⟨X, 0, none⟩ = some (.int .i64 (nd : Int)) := K.blk_cell bxp 0
                  have x1 : wp.cell? ⟨X, 1, none⟩ = some (.int .i64 (tn : Int)) := K.blk_cell bxp 1
                  have x2 : wp.cell? ⟨X, 2, none⟩ = some (.int .i64 (sa : Int)) := K.blk_cell bxp 2
                  have y0 : wp.cell? ⟨Y, 0, none⟩ = some (.int .i64 (nd : Int)) := K.blk_cell byp 0
                  have y1 : wp.cell? ⟨Y, 1, none⟩ = some (.int .i64 (tm : Int)) := K.blk_cell byp 1
                  have y2 : wp.cell? ⟨Y, 2, none⟩ = some (.int .i64 (sm : Int)) := K.blk_cell byp 2
                  clear hwp hY up bxp byp cW d0 d1 d2
                  by_cases ht : tn = tm
                  · subst ht
                    have b3 : ¬ (sa : Int) < (sm : Int) := by omega
                    clear nt
                    go_wp2_with fail
                    go_roundg (3 - (jx + 1))
                    case measure => have := Hjx.out; omega
                    case rel => exact ⟨jx + 1, by go_num, by omega, hid (by omega), VP⟩
                  · have b2 : ((tn : Int) == (tm : Int)) = false := by rw [beq_eq_false_iff_ne]; omega
                    clear nt
                    go_wp2_with fail
                    go_roundg (3 - (jx + 1))
                    case measure => have := Hjx.out; omega
                    case rel => exact ⟨jx + 1, by go_num, by omega, hid (by omega), VP⟩
                · have hnx : ¬ (jx : Int) < 3 := by omega
                  go_wp2_with fail
                  go_roundg (3 - (kx + 1))
                  case measure => have := Hk.out; omega
                  case rel => exact ⟨kx + 1, by go_num, by omega, hid (by omega), hid (HU9.out.trans HV.out (fun x hx => by cases hx))⟩
            · have hnk : ¬ (kx : Int) < 3 := by omega
              go_wp2_with fail
              go_roundg (m - (i + 1))
              case measure => have := Hd.out; omega
              case rel => exact ⟨i + 1, s8, by go_num, by omega, hid (by omega), hid ((N8.out.new HU.out).drop (fun z hz => by simp at hz; subst hz; exact HZ.out.1)), hid UP8.out.1, hid (F8.out.trans (Far.of_nil HU.out))⟩
    · have hni : ¬ (i : Int) < (m : Int) := by omega
      go_wp2_with fail
      go_ret
      exact ⟨rfl, HF.out.upd_le HWB.out U2.out⟩
end Go.Proofs.Ytgkjkgooonicbaa.Gs
