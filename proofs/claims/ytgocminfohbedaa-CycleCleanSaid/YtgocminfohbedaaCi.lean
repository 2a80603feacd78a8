/- The walk of the statement CycleGrows. -/
import Derived.Test.YtgocminfohbedaaCh
namespace Go.Proofs.Ytgocminfohbedaa.Cy
open Go Go.RowKit Go.Proofs.Ytgocminfohbedaa Go.Proofs.Ytgocminfohbedaa.K Go.Proofs.Ytgocminfohbedaa.M Go.Proofs.Ytgocminfohbedaa.O Go.Proofs.Ytgocminfohbedaa.So Go.Proofs.Ytgocminfohbedaa.R

theorem grows_dead {l l' : List Know} {P P' : List (List Int)} (h : Spec l P) (h' : Spec l' P') (hr : refsOf l' = refsOf l) (hk : ∀ k ∈ l, ∃ k' ∈ l', k'.ref = k.ref ∧ k'.refs = k.refs ∧ (k.up = true → k'.up = true)) : ∀ x ∈ sortL (dead l' P'.flatten), x ∈ sortL (dead l P.flatten) := fun x hx => by
  obtain ⟨q1, q2⟩ := mem_dead.1 (mem_sort.1 hx)
  refine mem_sort.2 (mem_dead.2 ⟨by rw [← hr]; exact q1, fun q => q2 ?_⟩)
  refine h.least (C := fun y => y ∈ P'.flatten) (fun k hkl hu => ?_) (fun k hkl hc y hy hv => ?_) x q
  · obtain ⟨k', k1, k2, k3, k4⟩ := hk k hkl
    rw [← k2]
    exact h'.up k1 (k4 hu)
  · obtain ⟨k', k1, k2, k3, k4⟩ := hk k hkl
    exact h'.closed k' k1 (by rw [k2]; exact hc) y (by rw [k3]; exact hy) (by rw [hr]; exact hv)
set_option maxHeartbeats 2000000 in
set_option maxRecDepth 100000 in
theorem clos15 {w : World} {B X : Nat} {v : Value} {G : List Int} (x : Int) (hX : w.cell? ⟨X, 0, none⟩ = some v) (hG : w.ownsRow B 3 1 v G.length (ints G)) (h8 : G.length ≤ 1000000) (hx : x ∈ G) :
    Calls Try.prog 15 #[.int .i64 x, .pointer (some ⟨X, 0, none⟩)] w fun e w' => e = .returned (.bool false) ∧ w' = w := by
  have CN := contains_own hG rfl h8 x
  rw [decide_eq_true hx] at CN
  have CH := hid CN
  clear CN hG hx
  go_enter Try.func15, Try.ntmps15
  go_wp2_with fail
  refine CH.out.mono ?_
  rintro e w' ⟨rfl, rfl⟩
  go_wp2_with fail
  go_ret
  exact ⟨rfl, rfl⟩
set_option maxHeartbeats 4000000 in
set_option maxRecDepth 100000 in
theorem index15 {w : World} {B B' X n : Nat} {v vh : Value} {G H : List Int} (hX : w.cell? ⟨X, 0, none⟩ = some v) (hG : w.ownsRow B 3 1 v G.length (ints G)) (h8 : G.length ≤ 1000000) (hh : w.ownsRow B' 3 1 vh n (ints H)) (hn : n = H.length) (hn8 : n ≤ 1000) (hs : ∀ x ∈ H, x ∈ G) :
    Calls Try.prog 34 #[vh, .func (.func 15) #[] #[.pointer (some ⟨X, 0, none⟩)]] w fun e w' => e = .returned (.int .i64 (-1)) ∧ w' = w := by
  obtain ⟨a, k, ev, -⟩ := own_view hh
  have HR : Hid (IntRow w a H) := hid (by
    subst hn
    by_cases c : H = []
    · subst c; exact fun i hi => by simp at hi
    · obtain ⟨r, k', cur, e, hb, hr, -⟩ := own_row hh c
      rw [e] at ev
      simp only [Value.slice.injEq] at ev
      rw [← ev.1]; exact hr)
  subst ev
  have CL := hid (fun x hx => clos15 (B := B) x hX hG h8 (hs x hx))
  have HN := hid hn
  clear hh hX hG h8 hs hn
  go_enter Try.func34, Try.ntmps34
  go_wp2_with fail
  go_loopg [8] n (fun d v8 wr => ∃ (i : Nat), v8 = .int .i64 (i : Int) ∧ i ≤ n ∧ Hid (i + d = n) ∧ Hid (wr = w))
  case atStart => exact ⟨0, rfl, by omega, hid (by omega), hid rfl⟩
  case round =>
    obtain ⟨i, rfl, hi, Hd, HW⟩ := hrel
    have hw := HW.out.symm
    subst hw
    by_cases hin : i < n
    · have hi' : (i : Int) < (n : Int) := by omega
      have hil : i < H.length := by rw [← HN.out]; exact hin
      obtain ⟨xa, rfl, hc⟩ := HR.out i hil
      obtain ⟨y, hy⟩ : ∃ y, y = H.getD i 0 := ⟨_, rfl⟩
      rw [← hy] at hc
      have hyr : y ∈ H := by
        rw [hy, List.getD_eq_getElem?_getD, List.getElem?_eq_getElem hil]
        exact List.getElem_mem _
      have CY := hid (CL.out y hyr)
      have HI := hid hin
      clear hy hyr hil hin
      go_wp2_with fail
      refine CY.out.mono ?_
      rintro e w' ⟨rfl, hw⟩
      have hw' := hw.symm
      subst hw'
      clear hw
      go_wp2_with fail
      go_roundg (n - (i + 1))
      case measure => have := Hd.out; have := HI.out; omega
      case rel => exact ⟨i + 1, by go_num, HI.out, hid (Nat.add_sub_of_le HI.out), hid rfl⟩
    · have hni : ¬ (i : Int) < (n : Int) := by omega
      go_wp2_with fail
      go_ret
      exact ⟨rfl, rfl⟩
set_option maxHeartbeats 2000000 in
set_option maxRecDepth 100000 in
theorem contains15 {w : World} {B B' X n : Nat} {v vh : Value} {G H : List Int} (hX : w.cell? ⟨X, 0, none⟩ = some v) (hG : w.ownsRow B 3 1 v G.length (ints G)) (h8 : G.length ≤ 1000000) (hh : w.ownsRow B' 3 1 vh n (ints H)) (hn : n = H.length) (hn8 : n ≤ 1000) (hs : ∀ x ∈ H, x ∈ G) :
    Calls Try.prog 14 #[vh, .func (.func 15) #[] #[.pointer (some ⟨X, 0, none⟩)]] w fun e w' => e = .returned (.bool false) ∧ w' = w := by
  have IX := hid (index15 hX hG h8 hh hn hn8 hs)
  clear hX hG h8 hh hn hs
  go_enter Try.func14, Try.ntmps14
  go_wp2_with fail
  refine IX.out.mono ?_
  rintro e w' ⟨rfl, rfl⟩
  go_wp2_with fail
  go_ret
  exact ⟨rfl, rfl⟩
theorem kcells_root : ∀ (L : List (Know × Value)) (i : Nat), i < L.length → (kcells L).set (i * 4 + 2) (.bool true) = kcells (L.set i ({ (L.getD i noKV).1 with root := true }, (L.getD i noKV).2))
  | [], i, h => by simp at h
  | x :: L, 0, _ => by simp [kcells, kvals]
  | x :: L, i + 1, h => by
    have ih := kcells_root L i (by simpa using h)
    have hl : (kvals x).length = 4 := rfl
    simp only [kcells, List.flatMap_cons, List.set_cons_succ, List.getD_cons_succ] at ih ⊢
    rw [show (i + 1) * 4 + 2 = (kvals x).length + (i * 4 + 2) by rw [hl]; omega, List.set_append_right _ _ (by omega), Nat.add_sub_cancel_left, ih]
/-- Actor i is held too. -/
def held (L : List (Know × Value)) (i : Nat) : List (Know × Value) := L.set i ({ (L.getD i noKV).1 with root := true }, (L.getD i noKV).2)
theorem held_get (L : List (Know × Value)) (i j : Nat) (hi : i < L.length) : (held L i).getD j noKV = if j = i then ({ (L.getD i noKV).1 with root := true }, (L.getD i noKV).2) else L.getD j noKV := by
  unfold held
  simp only [List.getD_eq_getElem?_getD, List.getElem?_set]
  by_cases h : i = j
  · subst h; simp [hi]
  · rw [if_neg h, if_neg (fun q => h q.symm)]
theorem held_refs (L : List (Know × Value)) (i j : Nat) (hi : i < L.length) : ((held L i).getD j noKV).1.refs = (L.getD j noKV).1.refs ∧ ((held L i).getD j noKV).2 = (L.getD j noKV).2 ∧ ((held L i).getD j noKV).1.ref = (L.getD j noKV).1.ref ∧ ((L.getD j noKV).1.up = true → ((held L i).getD j noKV).1.up = true) := by
  rw [held_get L i j hi]
  split
  · rename_i e
    subst e
    exact ⟨rfl, rfl, rfl, fun _ => rfl⟩
  · exact ⟨rfl, rfl, rfl, fun h => h⟩
theorem held_len (L : List (Know × Value)) (i : Nat) : (held L i).length = L.length := by simp [held]
theorem held_know (L : List (Know × Value)) (i : Nat) (hi : i < L.length) : refsOf ((held L i).map (·.1)) = refsOf (L.map (·.1)) ∧ ∀ k ∈ L.map (·.1), ∃ k' ∈ (held L i).map (·.1), k'.ref = k.ref ∧ k'.refs = k.refs ∧ (k.up = true → k'.up = true) := by
  have g : ∀ (K : List (Know × Value)) j (hj : j < K.length), K[j] = K.getD j noKV := fun K j hj => by
    rw [List.getD_eq_getElem?_getD, List.getElem?_eq_getElem hj]; rfl
  constructor
  · refine List.ext_getElem (by simp [refsOf, held_len]) (fun j h1 h2 => ?_)
    have hj : j < L.length := by simpa [refsOf] using h2
    have hj' : j < (held L i).length := by rw [held_len]; exact hj
    simp only [refsOf, List.getElem_map]
    rw [g _ j hj', g _ j hj]
    exact (held_refs L i j hi).2.2.1
  · intro k hk
    obtain ⟨p, hp, e⟩ := List.mem_map.1 hk
    obtain ⟨j, hj, e2⟩ := List.mem_iff_getElem.1 hp
    have hj' : j < (held L i).length := by rw [held_len]; exact hj
    refine ⟨((held L i).getD j noKV).1, List.mem_map.2 ⟨(held L i)[j], List.getElem_mem hj', by rw [g _ j hj']⟩, ?_⟩
    have hr := held_refs L i j hi
    rw [g _ j hj] at e2
    subst e2
    subst e
    exact ⟨hr.2.2.1, hr.1, hr.2.2.2⟩

set_option maxHeartbeats 16000000 in
set_option maxRecDepth 100000 in
theorem grows_walk (a : Option Addr) (len cap : Nat) (b : Int) (xs : List Int) (w : World) (hx : IntRow w a xs) (hl : xs.length = len) (hlc : len ≤ cap) (hc : cap ≤ 9223372036854775807) :
    Calls Try.prog 4 #[.slice a len cap, .int .i64 b] w fun e w' => e = .returned (.bool true) ∧ Upd [] w w' := by
  have HX := hid hx
  have HL := hid hl
  have HLC := hid hlc
  have HC := hid hc
  clear hx hl hlc hc
  go_enter Try.func4, Try.ntmps4
  go_wp2_with fail
  refine (begun_true w).mono ?_
  rintro e w1 ⟨rfl, hu⟩
  have U1 := hid hu
  clear hu
  have KN := hid (knows_any a len cap xs w1 (HX.out.upd U1.out) HL.out HLC.out HC.out)
  go_wp2_with fail
  refine KN.out.mono ?_
  rintro e w2 ⟨v, rfl, ⟨L, ho, ⟨M, hr⟩, h40, hf⟩, hu⟩
  obtain ⟨al, kl, ev, -⟩ := own_view ho
  subst ev
  obtain ⟨n, hn⟩ : ∃ n, n = L.length := ⟨_, rfl⟩
  have KA := hid (know_at ho hr rfl)
  have ND := hid (refs_inc hf)
  have HO := hid ho
  have HR := hid hr
  have HF := hid hf
  have U2 := hid (U1.out.trans hu (fun x hx => by cases hx))
  have HWB := hid (show w.heap.size ≤ w1.heap.size from U1.out.size)
  rw [← hn] at HO
  rw [← hn]
  have HNL := hid hn
  have hn40 : n ≤ 40 := by omega
  clear ho hr h40 hf hu hn KN
  have GA := hid (garbage_any al (L.map (·.1)) n kl (by rw [List.length_map]; exact HNL.out) (by omega) ND.out KA.out)
  go_wp2_with fail
  refine GA.out.mono ?_
  rintro e w3 ⟨vg, rfl, ⟨P, sp, ho⟩, hu⟩
  obtain ⟨G, hG⟩ : ∃ G, G = sortL (dead (L.map (·.1)) P.flatten) := ⟨_, rfl⟩
  rw [← hG] at ho
  have HG := hid hG
  have SP := hid sp
  have OG := hid ho
  have U3 := hid (U2.out.trans hu (fun x hx => by cases hx))
  have HO3 := hid (own_new HO.out hu)
  have HR3 := hid (HR.out.new hu)
  have GL := hid (show G.length ≤ n by rw [hG]; have := dead_le (L.map (·.1)) P.flatten; rw [List.length_map, ← HNL.out] at this; exact this)
  obtain ⟨ag, kg, eg, -⟩ := own_view ho
  subst eg
  clear hG sp ho hu GA KA HO HR
  by_cases hn0 : n = 0
  · subst hn0
    have hg0 : G = [] := List.eq_nil_of_length_eq_zero (by have := GL.out; omega)
    subst hg0
    go_wp2_with fail
    go_ret
    exact ⟨rfl, U3.out.alloc _⟩
  · have b0 : ((n : Int) == 0) = false := by rw [beq_eq_false_iff_ne]; omega
    have hn1 : 1 ≤ n := by omega
    go_upto_region 7 with (fail)
    obtain ⟨wx, hwx⟩ : ∃ wx, wx = w3.alloc (.cells #[.slice ag G.length kg] 22) := ⟨_, rfl⟩
    obtain ⟨X, hX⟩ : ∃ X, X = w3.heap.size := ⟨_, rfl⟩
    have ux : Upd [] w3 wx := by rw [hwx]; exact (Upd.refl [] w3).alloc _
    have XB := hid (show wx.heap[X]? = some (.cells #[.slice ag G.length kg] 22 (0, 0)) by rw [hwx, hX]; exact K.blk_new w3 _)
    rw [← hwx, ← hX]
    have HOX := hid (own_new HO3.out ux)
    have HRX := hid (HR3.out.new ux)
    have OGX := hid (own_new OG.out ux)
    have UX := hid (U3.out.trans ux (fun t ht => by cases ht))
    clear hwx hX ux HO3 HR3 OG
    have hnI : (1 : Int) ≤ (n : Int) ∧ (n : Int) ≤ 1000000 := by omega
    have HNI := hid hnI
    clear hnI
    go_wp2_with fail
    refine (rest_some b (n : Int) wx HNI.out.1 HNI.out.2).mono ?_
    rintro e w' ⟨r, hr, -, rfl, hw⟩
    have hw' := hw
    subst hw'
    clear hw
    have hrn : r < L.length := by rw [← HNL.out]; omega
    obtain ⟨R, c2, fz⟩ : ∃ R, al = some ⟨R, 0, none⟩ ∧ wx.cell? ⟨R, r * 4 + 2, none⟩ = some (.bool (L.getD r noKV).1.root) ∧ ∀ z, wx.frozen? ⟨R, z, none⟩ = false := by
      obtain ⟨a5, k5, e5, _, _, hc⟩ := own_view HOX.out
      simp only [Value.slice.injEq] at e5
      obtain ⟨rfl, _, _⟩ := e5
      obtain ⟨R, e, _, c, f⟩ := hc _ _ (kcells_get L r hrn).2.2.1
      exact ⟨R, e, c, f⟩
    subst c2
    obtain ⟨c2, fz⟩ := fz
    have fz2 := fz (r * 4 + 2)
    obtain ⟨cur, rb⟩ := own_block HOX.out R rfl
    have RB := hid rb
    have hr' : (r : Int) < (n : Int) := hr
    have HRN := hid hrn
    clear fz rb hrn
    go_upto_region 8 with (fail)
    obtain ⟨w5, hw5⟩ : ∃ w5, w5 = wx.setCell ⟨R, r * 4 + 2, none⟩ (.bool true) := ⟨_, rfl⟩
    have us : Upd [R] wx w5 := by rw [hw5]; exact (Upd.refl _ wx).setCell (.inl (by simp)) _
    have O5 := hid (show w5.ownsRow w1.heap.size 31 4 (.slice (some ⟨R, 0, none⟩) n kl) n (kcells (held L r)) by
      have h := row_set HOX.out (i := r * 4 + 2) (by rw [kcells_len]; have := HRN.out; omega) (.bool true)
      rw [kcells_root L r HRN.out] at h
      rw [hw5]; exact h)
    have R5 := hid (show RefsAt w5 (held L r) M from fun j hj => by
      have hj' : j < L.length := by rw [held_len] at hj; exact hj
      have hh := held_refs L r j HRN.out
      rw [hh.1, hh.2.1]
      exact (HRX.out.keep us (fun r0 cur0 _ hb hs => by simp at hs; subst hs; have := RB.out; rw [hb] at this; simp at this) (Nat.le_refl _)) j hj')
    have OG5 := hid (own_upd OGX.out us (fun z hz hs => by simp at hs; subst hs; exact own_cells_ne OGX.out RB.out (by decide) z hz rfl))
    have X5 := hid (us.blk XB.out (fun hs => by simp at hs; subst hs; have h1 := RB.out; have h2 := XB.out; rw [h1] at h2; simp at h2))
    have U5 := hid (UX.out.trans us (fun t ht => .inr (by simp at ht; subst ht; exact Nat.le_trans HWB.out (own_ge HOX.out t rfl))))
    rw [← hw5]
    clear hw5 us c2 fz2
    have HK := held_know L r HRN.out
    have KA := know_at O5.out R5.out (by rw [held_len]; exact HNL.out)
    have GA := hid (garbage_any (some ⟨R, 0, none⟩) ((held L r).map (·.1)) n kl (by rw [List.length_map, held_len]; exact HNL.out) (by omega) (by rw [HK.1]; exact ND.out) KA)
    have HKK := hid HK
    clear HK KA
    go_wp2_with fail
    refine GA.out.mono ?_
    rintro e w6 ⟨vh, rfl, ⟨P', sp', ho⟩, hu⟩
    have SUB := hid (show ∀ x ∈ sortL (dead ((held L r).map (·.1)) P'.flatten), x ∈ G by rw [HG.out]; exact grows_dead SP.out sp' HKK.out.1 HKK.out.2)
    have HL6 : (sortL (dead ((held L r).map (·.1)) P'.flatten)).length ≤ 1000 := by
      have := dead_le ((held L r).map (·.1)) P'.flatten
      rw [List.length_map, held_len, ← HNL.out] at this
      omega
    have U6 := hid (U5.out.trans hu (fun t ht => by cases ht))
    have CT := hid (contains15 (K.blk_cell (hu.blk X5.out (by simp)) 0) (own_new OG5.out hu) (by have := GL.out; omega) ho rfl HL6 SUB.out)
    obtain ⟨ah, kh, eh, -⟩ := own_view ho
    subst eh
    clear ho hu sp' GA HL6
    go_wp2_with fail
    refine CT.out.mono ?_
    rintro e w7 ⟨rfl, hw⟩
    have hw' := hw.symm
    subst hw'
    clear hw
    go_wp2_with fail
    go_ret
    exact ⟨rfl, U6.out⟩
end Go.Proofs.Ytgocminfohbedaa.Cy
