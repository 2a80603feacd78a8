/- The walk of the statement NamesAgree. -/
import Derived.Test.YtbkhjmdklghbiaaDoorNu
namespace Go.Proofs.YtbkhjmdklghbiaaDoor.Nm
open Go Go.RowKit Go.Proofs.YtbkhjmdklghbiaaDoor Go.Proofs.YtbkhjmdklghbiaaDoor.K Go.Proofs.YtbkhjmdklghbiaaDoor.M Go.Proofs.YtbkhjmdklghbiaaDoor.O Go.Proofs.YtbkhjmdklghbiaaDoor.R

/-- The nodes in memory and the row of their pointers. -/
structure Mem (B q n k : Nat) (g : Nat → Nat) (w0 w : World) (s : Nat → G) : Prop where
  net : Net B [q] n w g s
  own : w.ownsRow B 28 1 (.slice (some ⟨q, 0, none⟩) n k) n (ptrs g n)
  upd : Upd [] w0 w
  low : w0.heap.size ≤ B
  base : B ≤ w.heap.size
theorem Mem.ptr {B q n k : Nat} {g : Nat → Nat} {w0 w : World} {s : Nat → G} (h : Mem B q n k g w0 w s) {i : Nat} (hi : i < n) : w.cell? ⟨q, i, none⟩ = some (.pointer (some ⟨g i, 0, none⟩)) := by
  obtain ⟨q', k', e, c⟩ := ptr_at h.own hi
  cases e
  exact c
theorem Mem.new {B q n k : Nat} {g : Nat → Nat} {w0 w w' : World} {s : Nat → G} (h : Mem B q n k g w0 w s) (u : Upd [] w w') : Mem B q n k g w0 w' s :=
  ⟨h.net.new u, own_new h.own u, h.upd.trans u (fun x hx => by cases hx), h.low, Nat.le_trans h.base u.size⟩
theorem Mem.far {B q n k : Nat} {g : Nat → Nat} {w0 w w' : World} {s s' : Nat → G} (h : Mem B q n k g w0 w s) (hn : Net B [q] n w' g s') (f : Far B [q] w w') : Mem B q n k g w0 w' s' :=
  ⟨hn, f.own h.own (fun x hx => by simp [Value.ownBlock] at hx; simp [hx]), f.upd_le h.low h.upd, h.low, Nat.le_trans h.base f.size⟩
/-- register, and what it leaves. -/
theorem reg_mem (n : Nat) (a : Option Addr) (len cap : Nat) (xs : List Int) (w0 w : World) (h1 : 1 ≤ n) (h8 : n ≤ 8) (hx : IntRow w a xs) (hl : xs.length = len) (hlc : len ≤ cap) (hc : cap ≤ 9223372036854775807) (u : Upd [] w0 w) :
    Calls Tryd.prog 9 #[.int .i64 (n : Int), .slice a len cap] w fun e w' => ∃ B q k g s, e = .returned (.tuple #[.slice (some ⟨q, 0, none⟩) n k, .bool true]) ∧ Mem B q n k g w0 w' s ∧ ∀ i, i < n → Nd (s i) i 150 := by
  refine (register_any n a len cap xs w h1 h8 hx hl hlc hc).mono ?_
  rintro e w1 ⟨v, rfl, ⟨g, s, ho, hn, hb⟩, hu⟩
  obtain ⟨q, k, e, -⟩ := ptr_at ho (i := 0) (by omega)
  subst e
  exact ⟨w.heap.size, q, k, g, s, rfl, ⟨hn, ho, u.trans hu (fun x hx => by cases hx), u.size, hu.size⟩, hb⟩
theorem mem_state {B q n k : Nat} {g : Nat → Nat} {w0 w : World} {s : Nat → G} {b : Nat} (h : Mem B q n k g w0 w s) {i : Nat} (hi : i < n) (ho : Ok (s i) b) :
    Calls Tryd.prog 12 #[.pointer (some ⟨g i, 0, none⟩)] w fun e w' => ∃ a c, e = .returned (.slice a (s i).rows.length c) ∧ RowAt w' a (s i).rows ∧ Mem B q n k g w0 w' s ∧ Upd [] w w' := by
  refine (net_state' h.net hi ho).mono ?_
  rintro e w' ⟨a, c, rfl, -, -, h2, -, hu⟩
  exact ⟨a, c, rfl, h2, h.new hu, hu⟩
theorem mem_merge {B q n k : Nat} {g : Nat → Nat} {w0 w : World} {s : Nat → G} {b : Nat} (h : Mem B q n k g w0 w s) {i : Nat} (hi : i < n) (ho : Ok (s i) b) (hb : b ≤ 1000) (a : Option Addr) (c : Nat) (l : List Row) (hk : WF l) (hkb : RB l b) (hr : RowAt w a l) :
    Calls Tryd.prog 11 #[.pointer (some ⟨g i, 0, none⟩), .slice a l.length c] w fun e w' => e = .returned (.int .i64 0) ∧ Mem B q n k g w0 w' (upf s i (gmerge (s i) l)) := by
  refine (net_merge' h.net hi h.base ho hb a l.length c l rfl hk hkb hr).mono ?_
  rintro e w' ⟨rfl, h1, h2⟩
  exact ⟨rfl, h.far h1 h2⟩
def dn (r i : Nat) : Nat := if r = 0 then i else 4

set_option maxHeartbeats 16000000 in
set_option maxRecDepth 100000 in
theorem agree_walk (a : Option Addr) (len cap : Nat) (xs : List Int) (w : World) (hx : IntRow w a xs) (hl : xs.length = len) (hlc : len ≤ cap) (hc : cap ≤ 9223372036854775807) :
    Calls Tryd.prog 4 #[.slice a len cap] w fun e w' => e = .returned (.bool true) ∧ Upd [] w w' := by
  have RG := fun w1 (u : Upd [] w w1) => hid (reg_mem 4 a len cap xs w w1 (by decide) (by decide) (hx.upd u) hl hlc hc u)
  clear hx hl hlc hc
  go_enter Tryd.func4, Tryd.ntmps4
  go_wp2_with fail
  refine (begun_true w).mono ?_
  rintro e w1 ⟨rfl, hu1⟩
  have RG' := hid (RG w1 hu1)
  clear hu1 RG
  go_wp2_with fail
  refine RG'.out.out.mono ?_
  rintro e w2 ⟨B, q, k, g, t, rfl, hm, hb⟩
  have HM := hid hm
  have HA := hid (Ag.start (fun z hz => (hb z hz).ok))
  clear hm hb RG'
  go_wp2_with fail
  go_loopg [20] 2 (fun d v20 wr => ∃ (r : Nat) (s : Nat → G), v20 = .int .i64 (r : Int) ∧ r ≤ 2 ∧ Hid (r + d = 2) ∧ Hid (Mem B q 4 k g w wr s) ∧ Hid (Ag t s 4 (dn r 0) 0))
  case atStart => exact ⟨0, t, rfl, by omega, hid (by omega), HM, HA⟩
  case round =>
    clear HM HA
    obtain ⟨r, s, rfl, hr2, Hr, HM, HA⟩ := hrel
    by_cases hr : r < 2
    · have hr' : (r : Int) < 2 := by omega
      go_wp2_with fail
      go_loopg [24] 4 (fun d v24 wz => ∃ (i : Nat) (s : Nat → G), v24 = .int .i64 (i : Int) ∧ i ≤ 4 ∧ Hid (i + d = 4) ∧ Hid (Mem B q 4 k g w wz s) ∧ Hid (Ag t s 4 (dn r i) 0))
      case atStart => exact ⟨0, s, rfl, by omega, hid (by omega), HM, HA⟩
      case round =>
        clear HM HA
        obtain ⟨i, s, rfl, hi4, Hi, HM, HA⟩ := hrel
        by_cases hi : i < 4
        · have hi' : (i : Int) < 4 := by omega
          have ci := HM.out.ptr hi
          go_wp2_with fail
          go_loopg [30] 4 (fun d v30 wy => ∃ (j : Nat) (s : Nat → G), v30 = .int .i64 (j : Int) ∧ j ≤ 4 ∧ Hid (j + d = 4) ∧ Hid (Mem B q 4 k g w wy s) ∧ Hid (Ag t s 4 (dn r i) (if r = 0 then j else 0)))
          case atStart => exact ⟨0, s, rfl, by omega, hid (by omega), HM, hid (by have := HA.out; split <;> exact this)⟩
          case round =>
            clear HM HA ci
            obtain ⟨j, s, rfl, hj4, Hj, HM, HA⟩ := hrel
            by_cases hj : j < 4
            · have hj' : (j : Int) < 4 := by omega
              have cj := HM.out.ptr hj
              have ST := hid (mem_state HM.out hj (HA.out.ok hj))
              go_wp2_with fail
              refine ST.out.mono ?_
              rintro e w3 ⟨a3, c3, rfl, r3, hm3, -⟩
              have MG := hid (mem_merge hm3 hi (HA.out.ok hi) (by decide) a3 c3 _ (HA.out.ok hj).wf ((HA.out.ok hj).rb.mono (HA.out.ok hj).le) r3)
              clear hm3 r3 ST HM cj
              go_wp2_with fail
              refine MG.out.mono ?_
              rintro e w4 ⟨rfl, hm4⟩
              have HM4 := hid hm4
              clear hm4 MG
              go_wp2_with fail
              go_roundg (4 - (j + 1))
              case measure => have := Hj.out; omega
              case rel =>
                refine ⟨j + 1, _, by go_num, by omega, hid (by omega), HM4, hid (HA.out.step hi hj _ ?_)⟩
                by_cases e : r = 0
                · subst e
                  exact .inr ⟨rfl, rfl, rfl⟩
                · rw [if_neg e, if_neg e]; exact .inl rfl
            · have hj' : ¬ (j : Int) < 4 := by omega
              go_wp2_with fail
              go_roundg (4 - (i + 1))
              case measure => have := Hi.out; omega
              case rel =>
                refine ⟨i + 1, s, by go_num, by omega, hid (by omega), HM, hid ?_⟩
                have h := HA.out
                by_cases e : r = 0
                · subst e
                  rw [if_pos rfl, show j = 4 by omega] at h
                  exact h.next
                · rw [if_neg e] at h
                  unfold dn at h ⊢
                  rw [if_neg e] at h ⊢
                  exact h
        · have hi' : ¬ (i : Int) < 4 := by omega
          go_wp2_with fail
          go_roundg (2 - (r + 1))
          case measure => have := Hr.out; omega
          case rel =>
            refine ⟨r + 1, s, by go_num, by omega, hid (by omega), HM, hid ?_⟩
            have h := HA.out
            unfold dn at h ⊢
            rw [if_neg (Nat.succ_ne_zero r)]
            by_cases e : r = 0
            · rw [if_pos e, show i = 4 by omega] at h; exact h
            · rw [if_neg e] at h; exact h
    · have hr' : ¬ (r : Int) < 2 := by omega
      have HE := hid (show Ag t s 4 4 0 by
        have h := HA.out
        unfold dn at h
        rwa [if_neg (by omega)] at h)
      clear HA
      go_wp2_with fail
      go_loopg [44] 4 (fun d v44 wz => ∃ (i : Nat), v44 = .int .i64 (i : Int) ∧ i ≤ 4 ∧ Hid (i + d = 4) ∧ Hid (Mem B q 4 k g w wz s))
      case atStart => exact ⟨0, rfl, by omega, hid (by omega), HM⟩
      case round =>
        clear HM
        obtain ⟨i, rfl, hi4, Hi, HM⟩ := hrel
        by_cases hi : i < 4
        · have hi' : (i : Int) < 4 := by omega
          have ci := HM.out.ptr hi
          have c0 := HM.out.ptr (show 0 < 4 by decide)
          go_upto_region 22 with (fail)
          refine J.J_begin (fun wz => wz.cell? ⟨q, 0, none⟩ = some (.pointer (some ⟨g 0, 0, none⟩))) 7 (by kernel_rfl) ⟨by kernel_rfl, by kernel_rfl, by kernel_rfl⟩ c0 (fun LAST HS => ?_)
          refine J.J_take (i := 0) (v := ?_) LAST (by rfl) (by decide) (by kernel_rfl) (by kernel_rfl) (by intro _ _ _ h; exact h) HS (Or.inl ⟨by rfl, ?_⟩) ?_
          rotate_left
          · intro w hSw; (try dsimp only at hSw); go_simp; try with_reducible rfl
          try simp only [Act.put, List.setIfInBounds_toArray, List.set_cons_zero, List.set_cons_succ]
          refine J.J_take (i := 2) (v := ?_) LAST (by rfl) (by decide) (by kernel_rfl) (by kernel_rfl) (by intro _ _ _ h; exact h) HS (Or.inl ⟨by rfl, ?_⟩) ?_
          rotate_left
          · intro w hSw; (try dsimp only at hSw); go_simp; try with_reducible rfl
          try simp only [Act.put, List.setIfInBounds_toArray, List.set_cons_zero, List.set_cons_succ]
          refine J.J_take (i := 3) (v := ?_) LAST (by rfl) (by decide) (by kernel_rfl) (by kernel_rfl) (by intro _ _ _ h; exact h) HS (Or.inl ⟨by rfl, ?_⟩) ?_
          rotate_left
          · intro w hSw; (try dsimp only at hSw); go_simp; try with_reducible rfl
          try simp only [Act.put, List.setIfInBounds_toArray, List.set_cons_zero, List.set_cons_succ]
          refine J.J_take (i := 4) (v := ?_) LAST (by rfl) (by decide) (by kernel_rfl) (by kernel_rfl) (by intro _ _ _ h; exact h) HS (Or.inl ⟨by rfl, ?_⟩) ?_
          rotate_left
          · intro w hSw; (try dsimp only at hSw); go_simp; try with_reducible rfl
          try simp only [Act.put, List.setIfInBounds_toArray, List.set_cons_zero, List.set_cons_succ]
          refine J.J_one (i := 1) (by rfl) (by decide) (by kernel_rfl) (fun KK hK => ?_)
          go_simp
          refine (mem_state (HM.out.new ((Upd.refl [] wr).drew)) hi (HE.out.ok hi)).mono ?_
          rintro e w3 ⟨a3, c3, rfl, r3, hm3, u3⟩
          have HM3 := hid hm3
          have R3 := hid r3
          have c0' := hm3.ptr (show 0 < 4 by decide)
          clear hm3 r3 u3
          go_simp
          refine hK.out _ _ c0' ?_
          clear hK KK
          try simp only [List.setIfInBounds_toArray]
          refine J.J_one (i := 5) (by rfl) (by decide) (by kernel_rfl) (fun KK hK => ?_)
          go_simp
          refine (mem_state HM3.out (i := 0) (by decide) (HE.out.ok (by decide))).mono ?_
          rintro e w4 ⟨a4, c4, rfl, r4, hm4, u4⟩
          have HM4 := hid hm4
          have R4 := hid r4
          have R34 := hid (R3.out.new u4)
          have c0'' := hm4.ptr (show 0 < 4 by decide)
          clear hm4 r4 u4
          go_simp
          refine hK.out _ _ c0'' ?_
          clear hK KK
          try simp only [List.setIfInBounds_toArray]
          refine J.J_one (i := 6) (by rfl) (by decide) (by kernel_rfl) (fun KK hK => ?_)
          go_simp
          have ea : (s i).rows = (s 0).rows := HE.out.all hi (by decide)
          have EQ := equal_rows a3 a4 (s 0).rows.length c3 c4 (s 0).rows w4 (by rw [← ea]; exact R34.out) R4.out rfl (by have := (HE.out.ok (show 0 < 4 by decide)).wf.few; omega)
          rw [ea]
          refine EQ.mono ?_
          rintro e w5 ⟨rfl, hu5⟩
          have HM5 := hid (HM4.out.new hu5)
          go_simp
          refine hK.out _ _ (HM5.out.ptr (show 0 < 4 by decide)) ?_
          clear hK KK
          try simp only [List.setIfInBounds_toArray]
          refine J.J_last (by rfl) (by kernel_rfl) (by kernel_rfl) ?_
          clear LAST HS EQ ea c0 c0' c0'' hu5
          go_simp
          go_wp2_with fail
          go_roundg (4 - (i + 1))
          case measure => have := Hi.out; omega
          case rel => exact ⟨i + 1, by go_num, by omega, hid (by omega), HM5⟩
        · have hi' : ¬ (i : Int) < 4 := by omega
          go_wp2_with fail
          go_ret
          exact ⟨rfl, HM.out.upd⟩
end Go.Proofs.YtbkhjmdklghbiaaDoor.Nm
