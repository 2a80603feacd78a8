/- The walk of the statement GossipNext. -/
import Derived.Test.YtgkjkgooonicbaaHa
import Derived.Test.YtgkjkgooonicbaaGv
namespace Go.Proofs.Ytgkjkgooonicbaa.Gs
open Go Go.RowKit Go.Proofs.Ytgkjkgooonicbaa Go.Proofs.Ytgkjkgooonicbaa.K Go.Proofs.Ytgkjkgooonicbaa.M Go.Proofs.Ytgkjkgooonicbaa.O Go.Proofs.Ytgkjkgooonicbaa.R

set_option maxHeartbeats 16000000 in
set_option maxRecDepth 100000 in
theorem next_walk (a b c : Int) (w : World) : Calls Try.prog 11 #[.int .i64 a, .int .i64 b, .int .i64 c] w fun e w' => e = .returned (.bool true) ∧ Upd [] w w' := by
  obtain ⟨i3, hi3, hz3a, hz3b, hz3c⟩ := info_parts info3
  have HI3 := hid hi3
  have HA3 := hid hz3a
  have HB3 := hid hz3b
  have HC3 := hid hz3c
  clear hi3 hz3a hz3b hz3c
  go_enter Try.func11, Try.ntmps11
  go_wp2_with fail
  refine (begun_true w).mono ?_
  rintro e w1 ⟨rfl, hu⟩
  have U1 := hid hu
  clear hu
  go_wp2_with fail
  refine (rest_some a 7 w1 (by decide) (by decide)).mono ?_
  rintro e w' ⟨r0, hr0, -, rfl, rfl⟩
  obtain ⟨n, hn⟩ : ∃ n, n = 2 + r0 := ⟨_, rfl⟩
  have hwn : IntKind.i64.wrap (2 + (r0 : Int)) = (n : Int) := by rw [IntWalk.i64_in _ (by omega)]; omega
  have hn2 : 2 ≤ n := by omega
  have hn8 : n ≤ 8 := by omega
  have GA := hid (gossips_any n 1 w1 (by omega) hn8 (by omega) (by omega))
  clear hn hr0
  go_wp2_with fail
  refine GA.out.mono ?_
  rintro e w2 ⟨v, g, s, rfl, ho, hnn, hb, hu⟩
  obtain ⟨q, k, e, -⟩ := ptr_at ho (i := 0) (by omega)
  subst e
  obtain ⟨B, hB⟩ : ∃ B, B = w1.heap.size := ⟨_, rfl⟩
  rw [← hB] at ho hnn
  have HO := hid ho
  have HN := hid hnn
  have HB := hid hb
  have U2 := hid (U1.out.trans hu (fun x hx => by cases hx))
  have HWB := hid (show w.heap.size ≤ B by rw [hB]; exact U1.out.size)
  have HBW := hid (show B ≤ w2.heap.size by rw [hB]; exact hu.size)
  clear ho hnn hb hu GA hB hwn
  have N2 := hid hn2
  have N8 := hid hn8
  have hnI : (1 : Int) ≤ (n : Int) ∧ (n : Int) ≤ 1000000 := by omega
  have HNI := hid hnI
  clear hnI
  go_wp2_with fail
  refine (rest_some c (n : Int) w2 HNI.out.1 HNI.out.2).mono ?_
  rintro e w' ⟨r1, hr1, -, rfl, rfl⟩
  obtain ⟨me, hme⟩ : ∃ me, me = 1 + r1 := ⟨_, rfl⟩
  have hwm : IntKind.i64.wrap (1 + (r1 : Int)) = (me : Int) := by rw [IntWalk.i64_in _ (by omega)]; omega
  have hwm2 : IntKind.i64.wrap ((me : Int) - 1) = (r1 : Int) := by rw [IntWalk.i64_in _ (by omega)]; omega
  have HME := hid hme
  have HR1 := hid (show r1 < n by omega)
  clear hme
  go_wp2_with fail
  refine (rest_some b (n : Int) w2 HNI.out.1 HNI.out.2).mono ?_
  rintro e w' ⟨r2, hr2, -, rfl, rfl⟩
  obtain ⟨dead, hde⟩ : ∃ dead, dead = 1 + r2 := ⟨_, rfl⟩
  have hwd : IntKind.i64.wrap (1 + (r2 : Int)) = (dead : Int) := by rw [IntWalk.i64_in _ (by omega)]; omega
  obtain ⟨n1, hn1⟩ : ∃ n1, n1 = n - 1 := ⟨_, rfl⟩
  have hwn1 : IntKind.i64.wrap ((n : Int) - 1) = (n1 : Int) := by rw [IntWalk.i64_in _ (by omega)]; omega
  have HDE := hid hde
  have HN1 := hid hn1
  have HR2 := hid (show r2 < n by omega)
  obtain ⟨q', k', e, cp⟩ := ptr_at HO.out HR1.out
  cases e
  have hr1' : (r1 : Int) < (n : Int) := hr1
  clear hde hn1 hn2 hn8 hr2
  by_cases hmd : dead = me
  · have MD := hid hmd
    have b0 : ((dead : Int) != (me : Int)) = false := by rw [bne_eq_false_iff_eq]; omega
    have NS0 := hid (show NS (liveB n me dead) (s r1) from by
      have hbb := HB.out r1 HR1.out
      have hr := hbb.2.2.1
      have := HME.out
      refine NS.of_full (by rw [hr]; exact rall_wf n (by have := N2.out; omega) N8.out) (by rw [hr]; exact rall_full n) N8.out (by rw [hbb.1]; omega) (by rw [hbb.2.2.2.1]; omega) (fun k hk hkm => ?_)
      rw [hr, rall_get n k hk]
      constructor
      · intro h; simp at h
      · intro h; exact absurd (h.trans MD.out) hkm)
    have OE := hid (show n1 = if me = dead then n - 1 else n - 2 by rw [if_pos MD.out.symm]; exact HN1.out)
    obtain ⟨o, ho⟩ : ∃ o, o = n1 := ⟨_, rfl⟩
    rw [← ho] at OE hwn1
    obtain ⟨wS, hwS⟩ : ∃ wS, wS = w2 := ⟨_, rfl⟩
    have F0 := hid (show Far B [q] w2 wS by rw [hwS]; exact Far.refl _ _ _)
    obtain ⟨sS, hsS⟩ : ∃ sS, sS = s := ⟨_, rfl⟩
    have NET := hid (show Net B [q] n wS g sS by rw [hwS, hsS]; exact HN.out)
    rw [← hsS] at NS0
    clear hmd ho hsS
    go_upto_region 16 with (fail)
    rw [← hwS]
    clear hwS
    have LIV := hid (fun (p : Nat) (hp : p ≤ 8) => round_all (n := n) (me := me) (dead := dead) (p := p) N2.out N8.out (by have := HME.out; omega) (by have := HME.out; have := HR1.out; omega) (by have := HDE.out; omega) (by have := HDE.out; have := HR2.out; omega) hp (o := o) OE.out)
    obtain ⟨live, hlive⟩ : ∃ live, live = liveB n me dead := ⟨_, rfl⟩
    rw [← hlive] at NS0 LIV
    have LB := hid (fun (t : Nat) (ht : live t = true) => (show t ≠ me ∧ t ≠ dead from by rw [hlive, liveB_iff] at ht; exact ht.2.2))
    have HBS := hid (show B ≤ wS.heap.size by have := F0.out.size; have := HBW.out; omega)
    have ON := hid (show o ≤ 8 by have h := OE.out; have := N8.out; split at h <;> omega)
    clear hlive
    go_wp2_with fail
    refine (rest_some c 5 wS (by decide) (by decide)).mono ?_
    rintro e w' ⟨cc, hcc, -, rfl, rfl⟩
    go_wp2_with fail
    go_loopg [59] cc (fun d v59 wr => ∃ (i : Nat) (s' : Nat → G), v59 = .int .i64 (i : Int) ∧ i ≤ cc ∧ Hid (i + d = cc) ∧ Hid (Net B [q] n wr g s') ∧ Hid (NS live (s' r1)) ∧ Hid (Far B [q] w2 wr))
    case atStart => exact ⟨0, sS, rfl, by omega, hid (by omega), NET, NS0, F0⟩
    case round =>
      clear NET NS0 F0 HBS
      obtain ⟨i, s', rfl, hi, Hd, NET, NSS, HF⟩ := hrel
      have HBR := hid (show B ≤ wr.heap.size by have := HF.out.size; have := HBW.out; omega)
      by_cases hic : i < cc
      · have hi' : (i : Int) < (cc : Int) := by omega
        have NX := hid (net_next NET.out HR1.out HBR.out NSS.out.wf NSS.out.next live NSS.out.live)
        go_wp2_with fail
        refine NX.out.mono ?_
        rintro e w5 ⟨s5, n5, f5, hc5⟩
        have N5 := hid n5
        have F5 := hid f5
        have S5 := hid (show NS live s5 from by
          rcases hc5 with ⟨_, _, q5⟩ | ⟨t, q1, _, q5⟩
          · rw [q5]; exact NSS.out
          · rw [q5]; exact NSS.out.go (nxt_live 8 0 q1).2.2)
        have E5 : ∃ x y, e = .returned (.tuple #[x, y]) := by
          rcases hc5 with ⟨_, q5, _⟩ | ⟨t, _, q5, _⟩
          · exact ⟨_, _, q5⟩
          · exact ⟨_, _, q5⟩
        obtain ⟨x5, y5, rfl⟩ := E5
        clear n5 f5 hc5 NX
        go_wp2_with fail
        go_roundg (cc - (i + 1))
        case measure => have := Hd.out; omega
        case rel => exact ⟨i + 1, _, by go_num, by omega, hid (by omega), N5, hid (by rw [upf_at]; exact S5.out), hid (HF.out.trans F5.out)⟩
      · have hni : ¬ (i : Int) < (cc : Int) := by omega
        obtain ⟨p0, hp0⟩ : ∃ p0, p0 = (s' r1).next := ⟨_, rfl⟩
        have RA := hid (LIV.out p0 (by rw [hp0]; exact NSS.out.next))
        obtain ⟨L, hL⟩ : ∃ L, L = seqN live (o + 1) p0 := ⟨_, rfl⟩
        rw [← hL] at RA
        have HL := hid (show L = [] ++ seqN live (o + 1 - 0) (s' r1).next by rw [hL, hp0]; rfl)
        clear hL hp0 hic hi Hd LIV
        go_wp2_with fail
        go_loopg [12, 65] o (fun d v12 v65 wr => ∃ (j : Nat) (asked : List Nat) (s' : Nat → G), v65 = .int .i64 (j : Int) ∧ j ≤ o ∧ Hid (j + d = o) ∧ Hid (asked.length = j) ∧ Hid (wr.ownsRow B 3 1 v12 j (nats asked)) ∧ Hid (Net B (q :: v12.ownBlock.toList) n wr g s') ∧ Hid (NS live (s' r1)) ∧ Hid (L = asked ++ seqN live (o + 1 - j) (s' r1).next) ∧ Hid (Far B [q] w2 wr))
        case atStart => exact ⟨0, [], s', rfl, by omega, hid (by omega), hid rfl, hid (World.ownsRow_nil _ _ _ _), hid (NET.out.drop (fun z hz => by simpa [Value.ownBlock] using hz)), NSS, HL, HF⟩
        case round =>
          clear NET NSS HL HF HBR
          obtain ⟨j, asked, s', rfl, hj, Hd, HA, HOW, NET, NSS, HL, HF⟩ := hrel
          have HBR := hid (show B ≤ wr.heap.size by have := HF.out.size; have := HBW.out; omega)
          have NX := hid (net_next NET.out HR1.out HBR.out NSS.out.wf NSS.out.next live NSS.out.live)
          have hd8 := ON.out
          by_cases hjo : j < o
          · have hj' : (j : Int) < (o : Int) := by omega
            obtain ⟨a12, k12, e12, -⟩ := own_view HOW.out
            subst e12
            have J0 := hid hjo
            clear hjo hd8
            go_wp2_with fail
            refine NX.out.mono ?_
            rintro e w5 ⟨s5, n5, f5, hc5⟩
            have hlen := (RA.out.2 (by have := J0.out; omega)).1
            have hsq := HL.out
            have hja := HA.out
            have hj0 := J0.out
            rcases hc5 with ⟨q1, _, _⟩ | ⟨t, q1, rfl, q5⟩
            · exfalso
              rw [show o + 1 - j = (o - j) + 1 by omega] at hsq
              unfold seqN at hsq
              rw [q1] at hsq
              rw [hsq] at hlen
              simp at hlen
              omega
            · have hsq2 : L = (asked ++ [t]) ++ seqN live (o + 1 - (j + 1)) t := by
                rw [show o + 1 - j = (o + 1 - (j + 1)) + 1 by omega] at hsq
                unfold seqN at hsq
                rw [q1] at hsq
                rw [hsq]
                simp
              have ht := nxt_live 8 0 q1
              have tm := LB.out t ht.1
              have HTI := hid (show t ≤ 8 from ht.2.2)
              have b1 : ((t : Int) == (me : Int)) = false := by rw [beq_eq_false_iff_ne]; omega
              have b2 : ((t : Int) == (dead : Int)) = false := by rw [beq_eq_false_iff_ne]; omega
              have hno : (t : Int) ∉ asked.map (fun t : Nat => (t : Int)) := fun hm => by
                obtain ⟨y, hy, e⟩ := List.mem_map.1 hm
                have e : y = t := by have e' : (y : Int) = (t : Int) := e; omega
                subst e
                have nd := (RA.out.2 (by omega)).2.1
                rw [hsq2, List.take_append, List.take_of_length_le (by simp; omega)] at nd
                have nd2 := (List.nodup_append.1 nd).1
                rw [List.nodup_append] at nd2
                exact nd2.2.2 y hy y (by simp) rfl
              have N5 := hid n5
              have F5 := hid f5
              have S5 := hid (show NS live (upf s' r1 s5 r1) from by rw [upf_at, q5]; exact NSS.out.go ht.2.2)
              have L5 := hid (show L = (asked ++ [t]) ++ seqN live (o + 1 - (j + 1)) (upf s' r1 s5 r1).next from by rw [upf_at, q5]; exact hsq2)
              have O5 := hid (F5.out.own HOW.out (fun x hx => List.mem_cons_of_mem _ (by simpa using hx)))
              have on8 := ON.out
              have CN := hid (contains_no a12 (asked.map (fun t : Nat => (t : Int))) j k12 (t : Int) (by simp [hja]) (nats_row O5.out) (by simp; omega) hno)
              have B5 := hid (show B ≤ w5.heap.size by have := F5.out.size; have := HBR.out; omega)
              have hj8 : j ≤ 8 := by have := ON.out; omega
              clear on8 n5 f5 q1 q5 hsq hsq2 ht tm hno hlen hja hj0 NX
              go_wp2_with fail
              refine CN.out.mono ?_
              rintro e w6 ⟨rfl, hu6⟩
              have HU6 := hid hu6
              have O6 := hid (own_new O5.out hu6)
              clear hu6 CN
              go_wp2_with (first | (at_builtin; refine wpList_app (W := w6) rfl (.tmp 89) (.tmp 91) 45 rfl B 3 i3 _ 1 8 Try.underlying45 HI3.out HA3.out HB3.out HC3.out rfl (by decide) (.slice a12 j k12) j (nats asked) rfl O6.out [.int .i64 (t : Int)] 3 (by first | rfl | (rw [World.size_alloc]; rfl)) rfl (by intro u hu; simp at hu; subst hu; rfl) (by omega) (by omega) (by have := B5.out; have := HU6.out.size; omega) ?_; intro v7 w7 ho7 hu7 hl7; have HO7 := hid ho7; have HU7 := hid hu7; have HL7 := hid hl7; clear ho7 hu7 hl7))
              go_roundg (o - (j + 1))
              case measure => have := Hd.out; have := J0.out; omega
              case rel =>
                have hj0 := J0.out
                have g2 := Nat.add_sub_of_le hj0
                have N6 := N5.out.new HU6.out
                have hqz := N6.zlt q (by simp)
                have N7 := N6.turn (Z' := q :: v7.ownBlock.toList) HU7.out (fun x hx => List.mem_cons_of_mem _ hx) (fun z hz => by
                  rcases List.mem_cons.1 hz with rfl | hz
                  · exact ⟨.inl (by simp), by have := HU7.out.size; omega⟩
                  · have hz' : v7.ownBlock = some z := by simpa using hz
                    refine ⟨?_, own_lt HO7.out z hz'⟩
                    rcases HL7.out z hz' with e | e
                    · exact .inl (List.mem_cons_of_mem _ (by simpa using e))
                    · exact .inr e)
                refine ⟨j + 1, asked ++ [t], _, by rw [show ((j + 1 : Nat) : Int) = (j : Int) + 1 from rfl], hj0, hid g2, hid (by rw [List.length_append, HA.out]; rfl), hid ?_, hid N7, S5, L5, hid ?_⟩
                · have h := HO7.out
                  rw [show nats (asked ++ [t]) = nats asked ++ [.int .i64 (t : Int)] by simp [nats]]
                  exact h
                · refine ((HF.out.trans (F5.out.mono (fun z hz => by simp at hz; simp [hz]))).trans (Far.of_nil HU6.out)).trans ⟨_, HU7.out, fun z hz hs => ?_, fun x hx => own_ge O6.out x (by simpa using hx)⟩
                  simp at hz
                  subst hz
                  have h1 := own_block O6.out z (by simpa using hs)
                  have h2 := own_block (HF.out.own HO.out (fun x hx => by simp [Value.ownBlock] at hx; simp [hx])) z rfl
                  obtain ⟨cur, h1⟩ := h1
                  obtain ⟨cur2, h2⟩ := h2
                  have h3 := (F5.out.own (HF.out.own HO.out (fun x hx => by simp [Value.ownBlock] at hx; simp [hx])) (fun x hx => by simp [Value.ownBlock] at hx; simp [hx]))
                  exact own_own_ne O6.out (own_new h3 HU6.out) (by decide) z (by simpa using hs) z rfl rfl
          · have hnj : ¬ (j : Int) < (o : Int) := by omega
            have ej : j = o := by omega
            by_cases ho0 : o = 0
            · subst ho0
              have RN := RA.out.1 rfl
              have hnone : nxt live (s' r1).next 8 0 = none := by
                have hsq := HL.out
                rw [RN, ej] at hsq
                cases hx : nxt live (s' r1).next 8 0 with
                | none => rfl
                | some t =>
                  have hsq := (List.append_eq_nil_iff.1 hsq.symm).2
                  simp [seqN, hx] at hsq
              clear ej hjo RN
              go_wp2_with fail
              refine NX.out.mono ?_
              rintro e w5 ⟨s5, n5, f5, hc5⟩
              rcases hc5 with ⟨_, rfl, _⟩ | ⟨t, q1, _, _⟩
              · have F5 := hid f5
                clear n5 f5 NX
                go_wp2_with fail
                go_ret
                exact ⟨rfl, (HF.out.trans (F5.out.mono (fun z hz => by simp at hz; simp [hz]))).upd_le HWB.out U2.out⟩
              · rw [hnone] at q1; cases q1
            · have b3 : ((o : Int) == 0) = false := by rw [beq_eq_false_iff_ne]; omega
              subst ej
              obtain ⟨hlen, -, hwr⟩ := RA.out.2 (by omega)
              have hsq := HL.out
              have hal := HA.out
              obtain ⟨t0, rest, hask⟩ : ∃ t0 rest, asked = t0 :: rest := by
                cases asked with
                | nil => simp at hal; omega
                | cons x l => exact ⟨x, l, rfl⟩
              have hsome : nxt live (s' r1).next 8 0 = some t0 := by
                rw [show j + 1 - j = 0 + 1 by omega] at hsq
                unfold seqN at hsq
                cases hx : nxt live (s' r1).next 8 0 with
                | none =>
                  rw [hx] at hsq
                  rw [hsq] at hlen
                  simp at hlen
                  omega
                | some t =>
                  rw [hx] at hsq
                  have hsq : L = asked ++ [t] := by rw [hsq]; rfl
                  rw [hsq] at hwr
                  rw [List.getD_eq_getElem?_getD, List.getElem?_append_right (by omega), hal, Nat.sub_self] at hwr
                  rw [List.getD_eq_getElem?_getD, List.getElem?_append_left (by omega), hask] at hwr
                  simp at hwr
                  rw [hwr]
              obtain ⟨g12, k12, e12, -⟩ : ∃ g12 k12, _ ∧ True := by
                obtain ⟨a12, k12, e12, _, _, hc⟩ := own_view HOW.out
                obtain ⟨g12, e, _⟩ := hc 0 (.int .i64 (t0 : Int)) (by rw [hask]; rfl)
                exact ⟨g12, k12, e12.trans (by rw [e]), trivial⟩
              subst e12
              have C0 := hid (show ∀ wz, Far B (q :: (Value.slice (some ⟨g12, 0, none⟩) j k12).ownBlock.toList) wr wz → wz.cell? ⟨g12, 0, none⟩ = some (.int .i64 (t0 : Int)) from fun wz f => by
                have h := f.own HOW.out (fun x hx => List.mem_cons_of_mem _ (by simpa using hx))
                obtain ⟨a13, k13, e13, _, _, hc⟩ := own_view h
                cases e13
                obtain ⟨g13, e, _, c, _⟩ := hc 0 (.int .i64 (t0 : Int)) (by rw [hask]; rfl)
                cases e
                exact c)
              have hj1 : (0 : Int) < (j : Int) := by omega
              have hj2 : 0 < j := by omega
              clear hjo hlen hwr hsq hal hask
              go_wp2_with fail
              refine NX.out.mono ?_
              rintro e w5 ⟨s5, n5, f5, hc5⟩
              rcases hc5 with ⟨q1, _, _⟩ | ⟨t, q1, rfl, _⟩
              · rw [hsome] at q1; cases q1
              · rw [hsome] at q1
                cases q1
                have F5 := hid f5
                have c0 := C0.out w5 f5
                clear n5 f5 NX hsome
                go_wp2_with fail
                go_ret
                exact ⟨rfl, (HF.out.trans (F5.out.mono (fun z hz => by simp at hz; simp [hz]))).upd_le HWB.out U2.out⟩
  · have MD := hid hmd
    have b0 : ((dead : Int) != (me : Int)) = true := by rw [bne_iff_ne]; omega
    have HB0 := HB.out r1 HR1.out
    have hr := HB0.2.2.1
    have DA := hid (net_doubt HN.out HR1.out HBW.out (by rw [hr]; exact rall_wf n (by have := N2.out; omega) N8.out) (by rw [hr]; exact rall_full n) (k := r2) (t := dead) HR2.out (by have := HDE.out; omega) (by rw [HB0.1]; have := HME.out; omega) (by rw [hr, rall_get n r2 HR2.out]))
    obtain ⟨o, ho⟩ : ∃ o, o = n1 - 1 := ⟨_, rfl⟩
    have hwo : IntKind.i64.wrap ((n1 : Int) - 1) = (o : Int) := by have := HN1.out; have := N2.out; have := N8.out; rw [IntWalk.i64_in _ (by omega)]; omega
    have OE := hid (show o = if me = dead then n - 1 else n - 2 by rw [if_neg (fun q => MD.out q.symm)]; have := HN1.out; omega)
    clear hmd ho hr
    go_wp2_with fail
    refine DA.out.mono ?_
    rintro e w3 ⟨rfl, hn3, hf3⟩
    obtain ⟨s3, hs3⟩ : ∃ s3, s3 = ({ s r1 with rows := sayAt (s r1).rows r2 2, since := at1 (s r1).since dead 0 } : G) := ⟨_, rfl⟩
    rw [← hs3] at hn3
    have S3 := hid hs3
    have N3 := hid hn3
    have F3 := hid hf3
    have hl3 : (upf s r1 s3 r1).rows.length = n := by
      rw [upf_at, hs3]
      show (sayAt (s r1).rows r2 2).length = n
      rw [sayAt_len, HB0.2.2.1, rall_len]
    have TA := net_tick N3.out HR1.out (by have := F3.out.size; have := HBW.out; omega) (by rw [hl3]; have := N8.out; omega) (fun x => by
      rw [upf_at, hs3]
      show at1 (s r1).since dead 0 x ≤ _
      unfold at1
      split
      · omega
      · rw [HB0.2.2.2.2 x]; omega)
    rw [hl3, upf_at] at TA
    have TAH := hid TA
    clear hn3 hf3 hs3 DA TA hl3
    go_wp2_with fail
    refine TAH.out.mono ?_
    rintro e w4 ⟨rfl, hn4, hf4⟩
    obtain ⟨sS, hsS⟩ : ∃ sS, sS = upf (upf s r1 s3) r1 (tickN s3 n) := ⟨_, rfl⟩
    rw [← hsS] at hn4
    have NET := hid hn4
    have F0 := hid (F3.out.trans hf4)
    have NS0 := hid (show NS (liveB n me dead) (sS r1) from by
      have hr := HB0.2.2.1
      have hk0 : r2 < (s r1).rows.length := by rw [hr, rall_len]; exact HR2.out
      have e3 : s3.rows = sayAt (rall n) r2 2 := by rw [S3.out]; show sayAt (s r1).rows r2 2 = _; rw [hr]
      have hrl : r2 < (rall n).length := by rw [rall_len]; exact HR2.out
      have f3 : Full n s3.rows := by rw [e3]; exact (rall_full n).say HR2.out 2
      have td := tick_dead f3 HR2.out (by rw [S3.out]; exact HB0.2.1) (by rw [e3, sayAt_get' _ _ _ _ hrl, if_pos rfl]) (fun j hj => by
        rw [e3, sayAt_get' _ _ _ _ hrl, if_neg hj]
        by_cases c : j < n
        · rw [rall_get n j c]; simp
        · rw [List.getD_eq_getElem?_getD, List.getElem?_eq_none (by rw [rall_len]; omega)]; simp [noRow])
      have h3l : r2 < s3.rows.length := by rw [f3.1]; exact HR2.out
      rw [hsS, upf_at]
      have w3 : WF s3.rows := by
        rw [e3]
        have w0 := rall_wf n (by have := N2.out; omega) N8.out
        have := w0.2.2 r2 hrl
        exact w0.set hrl ⟨this.1, this.2.1, this.2.2.1, by simp, by simp⟩ rfl
      have := w3.2.2 r2 h3l
      refine NS.of_full (by rw [td.1]; exact w3.set h3l ⟨this.1, this.2.1, this.2.2.1, by simp, by simp⟩ rfl) (by rw [td.1]; exact f3.say HR2.out 3) N8.out (by rw [td.2.1, S3.out]; show (s r1).me = me; rw [HB0.1]; have := HME.out; omega) (by rw [td.2.2, S3.out]; show (s r1).next ≤ 8; rw [HB0.2.2.2.1]; omega) (fun k hk hkm => ?_)
      rw [td.1, sayAt_get' _ _ _ _ h3l]
      have hde := HDE.out
      split
      · rename_i c
        constructor
        · intro _; omega
        · intro _; rfl
      · rename_i c
        rw [e3, sayAt_get' _ _ _ _ hrl, if_neg c, rall_get n k hk]
        constructor
        · intro h; simp at h
        · intro h; omega)
    obtain ⟨wS, hwS⟩ : ∃ wS, wS = w4 := ⟨_, rfl⟩
    rw [← hwS] at NET F0
    clear hn4 hf4 hsS TAH
    go_upto_region 16 with (fail)
    rw [← hwS]
    clear hwS
    have LIV := hid (fun (p : Nat) (hp : p ≤ 8) => round_all (n := n) (me := me) (dead := dead) (p := p) N2.out N8.out (by have := HME.out; omega) (by have := HME.out; have := HR1.out; omega) (by have := HDE.out; omega) (by have := HDE.out; have := HR2.out; omega) hp (o := o) OE.out)
    obtain ⟨live, hlive⟩ : ∃ live, live = liveB n me dead := ⟨_, rfl⟩
    rw [← hlive] at NS0 LIV
    have LB := hid (fun (t : Nat) (ht : live t = true) => (show t ≠ me ∧ t ≠ dead from by rw [hlive, liveB_iff] at ht; exact ht.2.2))
    have HBS := hid (show B ≤ wS.heap.size by have := F0.out.size; have := HBW.out; omega)
    have ON := hid (show o ≤ 8 by have h := OE.out; have := N8.out; split at h <;> omega)
    clear hlive
    go_wp2_with fail
    refine (rest_some c 5 wS (by decide) (by decide)).mono ?_
    rintro e w' ⟨cc, hcc, -, rfl, rfl⟩
    go_wp2_with fail
    go_loopg [59] cc (fun d v59 wr => ∃ (i : Nat) (s' : Nat → G), v59 = .int .i64 (i : Int) ∧ i ≤ cc ∧ Hid (i + d = cc) ∧ Hid (Net B [q] n wr g s') ∧ Hid (NS live (s' r1)) ∧ Hid (Far B [q] w2 wr))
    case atStart => exact ⟨0, sS, rfl, by omega, hid (by omega), NET, NS0, F0⟩
    case round =>
      clear NET NS0 F0 HBS
      obtain ⟨i, s', rfl, hi, Hd, NET, NSS, HF⟩ := hrel
      have HBR := hid (show B ≤ wr.heap.size by have := HF.out.size; have := HBW.out; omega)
      by_cases hic : i < cc
      · have hi' : (i : Int) < (cc : Int) := by omega
        have NX := hid (net_next NET.out HR1.out HBR.out NSS.out.wf NSS.out.next live NSS.out.live)
        go_wp2_with fail
        refine NX.out.mono ?_
        rintro e w5 ⟨s5, n5, f5, hc5⟩
        have N5 := hid n5
        have F5 := hid f5
        have S5 := hid (show NS live s5 from by
          rcases hc5 with ⟨_, _, q5⟩ | ⟨t, q1, _, q5⟩
          · rw [q5]; exact NSS.out
          · rw [q5]; exact NSS.out.go (nxt_live 8 0 q1).2.2)
        have E5 : ∃ x y, e = .returned (.tuple #[x, y]) := by
          rcases hc5 with ⟨_, q5, _⟩ | ⟨t, _, q5, _⟩
          · exact ⟨_, _, q5⟩
          · exact ⟨_, _, q5⟩
        obtain ⟨x5, y5, rfl⟩ := E5
        clear n5 f5 hc5 NX
        go_wp2_with fail
        go_roundg (cc - (i + 1))
        case measure => have := Hd.out; omega
        case rel => exact ⟨i + 1, _, by go_num, by omega, hid (by omega), N5, hid (by rw [upf_at]; exact S5.out), hid (HF.out.trans F5.out)⟩
      · have hni : ¬ (i : Int) < (cc : Int) := by omega
        obtain ⟨p0, hp0⟩ : ∃ p0, p0 = (s' r1).next := ⟨_, rfl⟩
        have RA := hid (LIV.out p0 (by rw [hp0]; exact NSS.out.next))
        obtain ⟨L, hL⟩ : ∃ L, L = seqN live (o + 1) p0 := ⟨_, rfl⟩
        rw [← hL] at RA
        have HL := hid (show L = [] ++ seqN live (o + 1 - 0) (s' r1).next by rw [hL, hp0]; rfl)
        clear hL hp0 hic hi Hd LIV
        go_wp2_with fail
        go_loopg [12, 65] o (fun d v12 v65 wr => ∃ (j : Nat) (asked : List Nat) (s' : Nat → G), v65 = .int .i64 (j : Int) ∧ j ≤ o ∧ Hid (j + d = o) ∧ Hid (asked.length = j) ∧ Hid (wr.ownsRow B 3 1 v12 j (nats asked)) ∧ Hid (Net B (q :: v12.ownBlock.toList) n wr g s') ∧ Hid (NS live (s' r1)) ∧ Hid (L = asked ++ seqN live (o + 1 - j) (s' r1).next) ∧ Hid (Far B [q] w2 wr))
        case atStart => exact ⟨0, [], s', rfl, by omega, hid (by omega), hid rfl, hid (World.ownsRow_nil _ _ _ _), hid (NET.out.drop (fun z hz => by simpa [Value.ownBlock] using hz)), NSS, HL, HF⟩
        case round =>
          clear NET NSS HL HF HBR
          obtain ⟨j, asked, s', rfl, hj, Hd, HA, HOW, NET, NSS, HL, HF⟩ := hrel
          have HBR := hid (show B ≤ wr.heap.size by have := HF.out.size; have := HBW.out; omega)
          have NX := hid (net_next NET.out HR1.out HBR.out NSS.out.wf NSS.out.next live NSS.out.live)
          have hd8 := ON.out
          by_cases hjo : j < o
          · have hj' : (j : Int) < (o : Int) := by omega
            obtain ⟨a12, k12, e12, -⟩ := own_view HOW.out
            subst e12
            have J0 := hid hjo
            clear hjo hd8
            go_wp2_with fail
            refine NX.out.mono ?_
            rintro e w5 ⟨s5, n5, f5, hc5⟩
            have hlen := (RA.out.2 (by have := J0.out; omega)).1
            have hsq := HL.out
            have hja := HA.out
            have hj0 := J0.out
            rcases hc5 with ⟨q1, _, _⟩ | ⟨t, q1, rfl, q5⟩
            · exfalso
              rw [show o + 1 - j = (o - j) + 1 by omega] at hsq
              unfold seqN at hsq
              rw [q1] at hsq
              rw [hsq] at hlen
              simp at hlen
              omega
            · have hsq2 : L = (asked ++ [t]) ++ seqN live (o + 1 - (j + 1)) t := by
                rw [show o + 1 - j = (o + 1 - (j + 1)) + 1 by omega] at hsq
                unfold seqN at hsq
                rw [q1] at hsq
                rw [hsq]
                simp
              have ht := nxt_live 8 0 q1
              have tm := LB.out t ht.1
              have HTI := hid (show t ≤ 8 from ht.2.2)
              have b1 : ((t : Int) == (me : Int)) = false := by rw [beq_eq_false_iff_ne]; omega
              have b2 : ((t : Int) == (dead : Int)) = false := by rw [beq_eq_false_iff_ne]; omega
              have hno : (t : Int) ∉ asked.map (fun t : Nat => (t : Int)) := fun hm => by
                obtain ⟨y, hy, e⟩ := List.mem_map.1 hm
                have e : y = t := by have e' : (y : Int) = (t : Int) := e; omega
                subst e
                have nd := (RA.out.2 (by omega)).2.1
                rw [hsq2, List.take_append, List.take_of_length_le (by simp; omega)] at nd
                have nd2 := (List.nodup_append.1 nd).1
                rw [List.nodup_append] at nd2
                exact nd2.2.2 y hy y (by simp) rfl
              have N5 := hid n5
              have F5 := hid f5
              have S5 := hid (show NS live (upf s' r1 s5 r1) from by rw [upf_at, q5]; exact NSS.out.go ht.2.2)
              have L5 := hid (show L = (asked ++ [t]) ++ seqN live (o + 1 - (j + 1)) (upf s' r1 s5 r1).next from by rw [upf_at, q5]; exact hsq2)
              have O5 := hid (F5.out.own HOW.out (fun x hx => List.mem_cons_of_mem _ (by simpa using hx)))
              have on8 := ON.out
              have CN := hid (contains_no a12 (asked.map (fun t : Nat => (t : Int))) j k12 (t : Int) (by simp [hja]) (nats_row O5.out) (by simp; omega) hno)
              have B5 := hid (show B ≤ w5.heap.size by have := F5.out.size; have := HBR.out; omega)
              have hj8 : j ≤ 8 := by have := ON.out; omega
              clear on8 n5 f5 q1 q5 hsq hsq2 ht tm hno hlen hja hj0 NX
              go_wp2_with fail
              refine CN.out.mono ?_
              rintro e w6 ⟨rfl, hu6⟩
              have HU6 := hid hu6
              have O6 := hid (own_new O5.out hu6)
              clear hu6 CN
              go_wp2_with (first | (at_builtin; refine wpList_app (W := w6) rfl (.tmp 89) (.tmp 91) 45 rfl B 3 i3 _ 1 8 Try.underlying45 HI3.out HA3.out HB3.out HC3.out rfl (by decide) (.slice a12 j k12) j (nats asked) rfl O6.out [.int .i64 (t : Int)] 3 (by first | rfl | (rw [World.size_alloc]; rfl)) rfl (by intro u hu; simp at hu; subst hu; rfl) (by omega) (by omega) (by have := B5.out; have := HU6.out.size; omega) ?_; intro v7 w7 ho7 hu7 hl7; have HO7 := hid ho7; have HU7 := hid hu7; have HL7 := hid hl7; clear ho7 hu7 hl7))
              go_roundg (o - (j + 1))
              case measure => have := Hd.out; have := J0.out; omega
              case rel =>
                have hj0 := J0.out
                have g2 := Nat.add_sub_of_le hj0
                have N6 := N5.out.new HU6.out
                have hqz := N6.zlt q (by simp)
                have N7 := N6.turn (Z' := q :: v7.ownBlock.toList) HU7.out (fun x hx => List.mem_cons_of_mem _ hx) (fun z hz => by
                  rcases List.mem_cons.1 hz with rfl | hz
                  · exact ⟨.inl (by simp), by have := HU7.out.size; omega⟩
                  · have hz' : v7.ownBlock = some z := by simpa using hz
                    refine ⟨?_, own_lt HO7.out z hz'⟩
                    rcases HL7.out z hz' with e | e
                    · exact .inl (List.mem_cons_of_mem _ (by simpa using e))
                    · exact .inr e)
                refine ⟨j + 1, asked ++ [t], _, by rw [show ((j + 1 : Nat) : Int) = (j : Int) + 1 from rfl], hj0, hid g2, hid (by rw [List.length_append, HA.out]; rfl), hid ?_, hid N7, S5, L5, hid ?_⟩
                · have h := HO7.out
                  rw [show nats (asked ++ [t]) = nats asked ++ [.int .i64 (t : Int)] by simp [nats]]
                  exact h
                · refine ((HF.out.trans (F5.out.mono (fun z hz => by simp at hz; simp [hz]))).trans (Far.of_nil HU6.out)).trans ⟨_, HU7.out, fun z hz hs => ?_, fun x hx => own_ge O6.out x (by simpa using hx)⟩
                  simp at hz
                  subst hz
                  have h1 := own_block O6.out z (by simpa using hs)
                  have h2 := own_block (HF.out.own HO.out (fun x hx => by simp [Value.ownBlock] at hx; simp [hx])) z rfl
                  obtain ⟨cur, h1⟩ := h1
                  obtain ⟨cur2, h2⟩ := h2
                  have h3 := (F5.out.own (HF.out.own HO.out (fun x hx => by simp [Value.ownBlock] at hx; simp [hx])) (fun x hx => by simp [Value.ownBlock] at hx; simp [hx]))
                  exact own_own_ne O6.out (own_new h3 HU6.out) (by decide) z (by simpa using hs) z rfl rfl
          · have hnj : ¬ (j : Int) < (o : Int) := by omega
            have ej : j = o := by omega
            by_cases ho0 : o = 0
            · subst ho0
              have RN := RA.out.1 rfl
              have hnone : nxt live (s' r1).next 8 0 = none := by
                have hsq := HL.out
                rw [RN, ej] at hsq
                cases hx : nxt live (s' r1).next 8 0 with
                | none => rfl
                | some t =>
                  have hsq := (List.append_eq_nil_iff.1 hsq.symm).2
                  simp [seqN, hx] at hsq
              clear ej hjo RN
              go_wp2_with fail
              refine NX.out.mono ?_
              rintro e w5 ⟨s5, n5, f5, hc5⟩
              rcases hc5 with ⟨_, rfl, _⟩ | ⟨t, q1, _, _⟩
              · have F5 := hid f5
                clear n5 f5 NX
                go_wp2_with fail
                go_ret
                exact ⟨rfl, (HF.out.trans (F5.out.mono (fun z hz => by simp at hz; simp [hz]))).upd_le HWB.out U2.out⟩
              · rw [hnone] at q1; cases q1
            · have b3 : ((o : Int) == 0) = false := by rw [beq_eq_false_iff_ne]; omega
              subst ej
              obtain ⟨hlen, -, hwr⟩ := RA.out.2 (by omega)
              have hsq := HL.out
              have hal := HA.out
              obtain ⟨t0, rest, hask⟩ : ∃ t0 rest, asked = t0 :: rest := by
                cases asked with
                | nil => simp at hal; omega
                | cons x l => exact ⟨x, l, rfl⟩
              have hsome : nxt live (s' r1).next 8 0 = some t0 := by
                rw [show j + 1 - j = 0 + 1 by omega] at hsq
                unfold seqN at hsq
                cases hx : nxt live (s' r1).next 8 0 with
                | none =>
                  rw [hx] at hsq
                  rw [hsq] at hlen
                  simp at hlen
                  omega
                | some t =>
                  rw [hx] at hsq
                  have hsq : L = asked ++ [t] := by rw [hsq]; rfl
                  rw [hsq] at hwr
                  rw [List.getD_eq_getElem?_getD, List.getElem?_append_right (by omega), hal, Nat.sub_self] at hwr
                  rw [List.getD_eq_getElem?_getD, List.getElem?_append_left (by omega), hask] at hwr
                  simp at hwr
                  rw [hwr]
              obtain ⟨g12, k12, e12, -⟩ : ∃ g12 k12, _ ∧ True := by
                obtain ⟨a12, k12, e12, _, _, hc⟩ := own_view HOW.out
                obtain ⟨g12, e, _⟩ := hc 0 (.int .i64 (t0 : Int)) (by rw [hask]; rfl)
                exact ⟨g12, k12, e12.trans (by rw [e]), trivial⟩
              subst e12
              have C0 := hid (show ∀ wz, Far B (q :: (Value.slice (some ⟨g12, 0, none⟩) j k12).ownBlock.toList) wr wz → wz.cell? ⟨g12, 0, none⟩ = some (.int .i64 (t0 : Int)) from fun wz f => by
                have h := f.own HOW.out (fun x hx => List.mem_cons_of_mem _ (by simpa using hx))
                obtain ⟨a13, k13, e13, _, _, hc⟩ := own_view h
                cases e13
                obtain ⟨g13, e, _, c, _⟩ := hc 0 (.int .i64 (t0 : Int)) (by rw [hask]; rfl)
                cases e
                exact c)
              have hj1 : (0 : Int) < (j : Int) := by omega
              have hj2 : 0 < j := by omega
              clear hjo hlen hwr hsq hal hask
              go_wp2_with fail
              refine NX.out.mono ?_
              rintro e w5 ⟨s5, n5, f5, hc5⟩
              rcases hc5 with ⟨q1, _, _⟩ | ⟨t, q1, rfl, _⟩
              · rw [hsome] at q1; cases q1
              · rw [hsome] at q1
                cases q1
                have F5 := hid f5
                have c0 := C0.out w5 f5
                clear n5 f5 NX hsome
                go_wp2_with fail
                go_ret
                exact ⟨rfl, (HF.out.trans (F5.out.mono (fun z hz => by simp at hz; simp [hz]))).upd_le HWB.out U2.out⟩
end Go.Proofs.Ytgkjkgooonicbaa.Gs
