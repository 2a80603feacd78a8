/- The walk of clock.Check: it answers 0 just of histories. -/
import Derived.Test.YtcdladnbcamgjaaProg
import Derived.Test.YtcdladnbcamgjaaK
import Derived.Test.YtcdladnbcamgjaaM
import Derived.Test.YtcdladnbcamgjaaEv
import Derived.BigQuiet
import Derived.Deep.QuietTactic
import Derived.Deep.LoopGhost
import Derived.BigRegion
import Derived.IntWalk
namespace Go.Proofs.Ytcdladnbcamgjaa.Ck
open Go Go.RowKit Go.Proofs.Ytcdladnbcamgjaa.K Go.Proofs.Ytcdladnbcamgjaa.M Go.Proofs.Ytcdladnbcamgjaa.Ev

def evVals (e : Ev) : List Value := [.int .i64 (e.place : Int), .int .i64 (e.kind : Int), .int .i64 (e.msg : Int)]
def evCells (l : List Ev) : List Value := l.flatMap evVals

/-- The slice's cells hold these events. -/
def EvRow (w : World) (a : Option Addr) (l : List Ev) : Prop := ∀ i, i < l.length → ∃ g, a = some ⟨g, 0, none⟩ ∧
  w.cell? ⟨g, i * 3, none⟩ = some (.int .i64 ((l.getD i noEv).place : Int)) ∧ w.cell? ⟨g, i * 3 + 1, none⟩ = some (.int .i64 ((l.getD i noEv).kind : Int)) ∧ w.cell? ⟨g, i * 3 + 2, none⟩ = some (.int .i64 ((l.getD i noEv).msg : Int))
theorem EvRow.upd {w w' : World} {a : Option Addr} {l : List Ev} (h : EvRow w a l) (u : Upd [] w w') : EvRow w' a l := fun i hi =>
  let ⟨g, e, h1, h2, h3⟩ := h i hi; ⟨g, e, u.cell h1 (by simp), u.cell h2 (by simp), u.cell h3 (by simp)⟩

/-- A set in a map's words. -/
def Sets (m : Mp) (s : List Nat) : Prop := ∀ k : Nat, (mlook m (k : Int)).getD (.bool false) = .bool (decide (k ∈ s))
theorem Sets.nil : Sets [] [] := fun _k => rfl
theorem Sets.put {m : Mp} {s : List Nat} (h : Sets m s) (k : Nat) : Sets (mput m (k : Int) (.bool true)) (s ++ [k]) := fun j => by
  rw [mlook_put]
  by_cases e : (k : Int) = (j : Int)
  · have : k = j := by omega
    subst this; simp
  · have : ¬ j = k := fun q => e (by rw [q])
    rw [if_neg e, h j]; simp [this]

theorem zeroB (w : World) : (zeroValue 4).run Try.prog w = .ok (.bool false) w := by kernel_rfl

set_option maxHeartbeats 4000000 in
set_option maxRecDepth 100000 in
theorem check_any (a : Option Addr) (cap : Nat) (l : List Ev) (w : World) (hx : EvRow w a l) (_hlc : l.length ≤ cap) (_hc : cap ≤ 9223372036854775807) (hn : l.length ≤ 200) :
    Calls Try.prog 56 #[.slice a l.length cap] w fun e w' => ∃ c : Nat, e = .returned (.int .i64 (c : Int)) ∧ (c = 0 ↔ Valid l) ∧ Upd [] w w' := by
  obtain ⟨n, hnl⟩ : ∃ n, n = l.length := ⟨_, rfl⟩
  rw [← hnl] at _hlc hn ⊢
  have HX := hid hx
  have HN := hid hnl
  clear hx hnl
  have hmm := @run_makeMap Try.prog
  go_enter Try.func56, Try.ntmps56
  go_wp2_with fail
  have e1 : (w.alloc (.map #[] 0)).heap.size = w.heap.size + 1 := by simp
  have m1 : IsMap ((w.alloc (.map #[] 0)).alloc (.map #[] 0)) w.heap.size [] := (IsMap.made w).alloc _
  have m2 : IsMap ((w.alloc (.map #[] 0)).alloc (.map #[] 0)) (w.heap.size + 1) [] := by have := IsMap.made (w.alloc (.map #[] 0)); rw [e1] at this; exact this
  have M1 := hid m1
  have M2 := hid m2
  clear m1 m2 e1 hmm
  obtain ⟨b, hb⟩ : ∃ b, b = w.heap.size := ⟨_, rfl⟩
  rw [← hb] at M1 M2 ⊢
  have HB := hid hb
  clear hb
  go_loopg [14] n (fun d v14 wr => ∃ (j : Nat) (m1 m2 : Mp), v14 = .int .i64 (j : Int) ∧ Hid (j + d = n) ∧ Hid (IsMap wr b m1) ∧ Hid (Sets m1 (sends (l.take j))) ∧ Hid (IsMap wr (b + 1) m2) ∧ Hid (Sets m2 (takes (l.take j))) ∧ Hid (Valid (l.take j)) ∧ Hid (Upd [] w wr))
  case atStart => exact ⟨0, [], [], rfl, by show _ = _; omega, M1.out, Sets.nil, M2.out, Sets.nil, valid_nil, ((Upd.refl [] w).alloc _).alloc _⟩
  case round =>
    obtain ⟨j, m1, m2, rfl, Hj, H1, S1, H2, S2, HV, Hu⟩ := hrel
    clear M1 M2
    by_cases hj : j < n
    · obtain ⟨g, rfl, c0, c1, c2⟩ := HX.out.upd Hu.out j (by rw [← HN.out]; exact hj)
      obtain ⟨ev, hev⟩ : ∃ ev, ev = l.getD j noEv := ⟨_, rfl⟩
      rw [← hev] at c0 c1 c2
      have HE := hid hev
      clear hev
      obtain ⟨pl, kd, ms⟩ := ev
      simp only at c0 c1 c2
      by_cases k1 : kd < 1
      · have k1' : decide ((kd : Int) < 1) = true := by simp; omega
        go_wp2_with fail
        go_ret
        exact ⟨3, rfl, ⟨fun h => absurd h (by decide), fun h => absurd (h j (by rw [← HN.out]; exact hj)) (by rw [← HE.out]; exact fun f => by have := f.k1; simp at this; omega)⟩, Hu.out.alloc _⟩
      have k1' : decide ((kd : Int) < 1) = false := by simp; omega
      by_cases k3 : 3 < kd
      · have k3' : decide (3 < (kd : Int)) = true := by simp; omega
        go_wp2_with fail
        go_ret
        exact ⟨3, rfl, ⟨fun h => absurd h (by decide), fun h => absurd (h j (by rw [← HN.out]; exact hj)) (by rw [← HE.out]; exact fun f => by have := f.k3; simp at this; omega)⟩, Hu.out.alloc _⟩
      have k3' : decide (3 < (kd : Int)) = false := by simp; omega
      have p0' : decide ((pl : Int) < 0) = false := by simp
      by_cases p8 : 8 ≤ pl
      · have p8' : decide (8 ≤ (pl : Int)) = true := by simp; omega
        go_wp2_with fail
        go_ret
        exact ⟨1, rfl, ⟨fun h => absurd h (by decide), fun h => absurd (h j (by rw [← HN.out]; exact hj)) (by rw [← HE.out]; exact fun f => by have := f.p8; simp at this; omega)⟩, Hu.out.alloc _⟩
      have p8' : decide (8 ≤ (pl : Int)) = false := by simp; omega
      have q0' : decide ((ms : Int) < 0) = false := by simp
      by_cases kl : kd = 1
      · subst kl
        go_wp2_with fail
        go_roundg (n - (j + 1))
        case measure => have := Hj.out; omega
        case rel =>
          have ht := take_succ l j (by rw [← HN.out]; exact hj)
          rw [← HE.out] at ht
          refine ⟨j + 1, m1, m2, by go_num, by show _ = _; omega, H1.out.alloc _, ?_, H2.out.alloc _, ?_, ?_, Hu.out.alloc _⟩
          · rw [ht, sends_snoc]; exact S1.out
          · rw [ht, takes_snoc]; exact S2.out
          · rw [ht]; exact valid_snoc HV.out ⟨by simp, by simp, by simp; omega, fun h => absurd rfl h, fun h => by simp at h, fun h => by simp at h, fun h => by simp at h⟩
      have kl' : ((kd : Int) != 1) = true := by rw [bne_iff_ne]; omega
      by_cases q9 : 999 < ms
      · have q9' : decide (999 < (ms : Int)) = true := by simp; omega
        go_wp2_with fail
        go_ret
        exact ⟨1, rfl, ⟨fun h => absurd h (by decide), fun h => absurd (h j (by rw [← HN.out]; exact hj)) (by rw [← HE.out]; exact fun f => by have := f.m kl; simp at this; omega)⟩, Hu.out.alloc _⟩
      have q9' : decide (999 < (ms : Int)) = false := by simp; omega
      have L1 : ∀ o, (Instr.lookup 86 (.map (some (b))) (.int .i64 (ms : Int)) false).run Try.prog (wr.alloc o) = .ok (.bool (decide (ms ∈ sends (l.take j)))) (wr.alloc o) := fun o => by
        rw [← S1.out ms]; exact (run_look (P := Try.prog) (H1.out.alloc o) Try.underlying86 Try.underlying3 (zeroB _) (ms : Int)).1
      have L2 : ∀ o, (Instr.lookup 86 (.map (some (b + 1))) (.int .i64 (ms : Int)) false).run Try.prog (wr.alloc o) = .ok (.bool (decide (ms ∈ takes (l.take j)))) (wr.alloc o) := fun o => by
        rw [← S2.out ms]; exact (run_look (P := Try.prog) (H2.out.alloc o) Try.underlying86 Try.underlying3 (zeroB _) (ms : Int)).1
      by_cases kd2 : kd = 2
      · subst kd2
        clear L2
        by_cases hin : ms ∈ sends (l.take j)
        · simp only [decide_eq_true hin] at L1
          have HI := hid hin
          clear hin
          go_wp2_with fail
          go_ret
          exact ⟨5, rfl, ⟨fun h => absurd h (by decide), fun h => absurd (h j (by rw [← HN.out]; exact hj)) (by rw [← HE.out]; exact fun f => f.sent rfl HI.out)⟩, Hu.out.alloc _⟩
        · simp only [decide_eq_false hin] at L1
          have HI := hid hin
          clear hin
          go_wp2_with (first | (at_mapUpdate; refine wpList_put rfl _ _ _ 86 rfl 3 4 Try.underlying86 Try.underlying3 b m1 rfl (H1.out.alloc _) _ _ rfl rfl ?_; intro w1 hm1 hu1; have HM1 := hid hm1; have HU1 := hid hu1; clear hm1 hu1 L1))
          go_roundg (n - (j + 1))
          case measure => have := Hj.out; omega
          case rel =>
            have ht := take_succ l j (by rw [← HN.out]; exact hj)
            rw [← HE.out] at ht
            refine ⟨j + 1, _, m2, by go_num, by show _ = _; omega, HM1.out, ?_, (H2.out.alloc _).upd HU1.out (by simp), ?_, ?_, (Hu.out.alloc _).trans HU1.out (fun t ht => .inr (by have := HB.out; simp at ht; omega))⟩
            · rw [ht, sends_snoc]; exact S1.out.put ms
            · rw [ht, takes_snoc]; exact S2.out
            · rw [ht]; exact valid_snoc HV.out ⟨by simp, by simp, by simp; omega, fun h => by simp; omega, fun h => HI.out, fun h => by simp at h, fun h => by simp at h⟩
      · have kd3 : kd = 3 := by omega
        subst kd3
        clear kd2
        by_cases hin : ms ∈ sends (l.take j)
        · simp only [decide_eq_true hin] at L1
          have HI := hid hin
          clear hin
          by_cases hin2 : ms ∈ takes (l.take j)
          · simp only [decide_eq_true hin2] at L2
            have HI2 := hid hin2
            clear hin2
            go_wp2_with fail
            go_ret
            exact ⟨5, rfl, ⟨fun h => absurd h (by decide), fun h => absurd (h j (by rw [← HN.out]; exact hj)) (by rw [← HE.out]; exact fun f => f.took2 rfl HI2.out)⟩, Hu.out.alloc _⟩
          · simp only [decide_eq_false hin2] at L2
            have HI2 := hid hin2
            clear hin2
            go_wp2_with (first | (at_mapUpdate; refine wpList_put rfl _ _ _ 86 rfl 3 4 Try.underlying86 Try.underlying3 (b + 1) m2 rfl (H2.out.alloc _) _ _ rfl rfl ?_; intro w1 hm1 hu1; have HM1 := hid hm1; have HU1 := hid hu1; clear hm1 hu1 L1 L2))
            go_roundg (n - (j + 1))
            case measure => have := Hj.out; omega
            case rel =>
              have ht := take_succ l j (by rw [← HN.out]; exact hj)
              rw [← HE.out] at ht
              refine ⟨j + 1, m1, _, by go_num, by show _ = _; omega, (H1.out.alloc _).upd HU1.out (by simp), ?_, HM1.out, ?_, ?_, (Hu.out.alloc _).trans HU1.out (fun t ht => .inr (by have := HB.out; simp at ht; omega))⟩
              · rw [ht, sends_snoc]; exact S1.out
              · rw [ht, takes_snoc]; exact S2.out.put ms
              · rw [ht]; exact valid_snoc HV.out ⟨by simp, by simp, by simp; omega, fun h => by simp; omega, fun h => by simp at h, fun h => HI.out, fun h => HI2.out⟩
        · simp only [decide_eq_false hin] at L1
          have HI := hid hin
          clear hin L2
          go_wp2_with fail
          go_ret
          exact ⟨4, rfl, ⟨fun h => absurd h (by decide), fun h => absurd (h j (by rw [← HN.out]; exact hj)) (by rw [← HE.out]; exact fun f => HI.out (f.took1 rfl))⟩, Hu.out.alloc _⟩
    · go_wp2_with fail
      go_ret
      have hje : j = n := by have := Hj.out; omega
      refine ⟨0, rfl, ⟨fun _ => ?_, fun _ => rfl⟩, Hu.out⟩
      have := HV.out
      rw [hje, HN.out, List.take_length] at this
      exact this
end Go.Proofs.Ytcdladnbcamgjaa.Ck
