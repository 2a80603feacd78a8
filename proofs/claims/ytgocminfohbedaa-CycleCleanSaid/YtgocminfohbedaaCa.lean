/- Actors that know one another in memory; maps of numbers and of marks; cycle.index. -/
import Derived.Test.YtgocminfohbedaaCt
import Derived.Test.YtgocminfohbedaaSo
import Derived.Test.YtgocminfohbedaaM
import Derived.Test.YtgocminfohbedaaR
namespace Go.Proofs.Ytgocminfohbedaa.Cy
open Go Go.RowKit Go.Proofs.Ytgocminfohbedaa Go.Proofs.Ytgocminfohbedaa.K Go.Proofs.Ytgocminfohbedaa.M Go.Proofs.Ytgocminfohbedaa.O Go.Proofs.Ytgocminfohbedaa.So

/-- Actors in memory, from address a on: four cells each, and the row of those whom one knows. -/
def KnowAt (w : World) (a : Option Addr) (l : List Know) : Prop := ∀ i, i < l.length → ∃ g o ra rk, a = some ⟨g, o, none⟩ ∧ w.cell? ⟨g, o + i * 4, none⟩ = some (.int .i64 (l.getD i noKnow).ref) ∧ w.cell? ⟨g, o + i * 4 + 1, none⟩ = some (.bool (l.getD i noKnow).awake) ∧ w.cell? ⟨g, o + i * 4 + 2, none⟩ = some (.bool (l.getD i noKnow).root) ∧ w.cell? ⟨g, o + i * 4 + 3, none⟩ = some (.slice ra (l.getD i noKnow).refs.length rk) ∧ IntRow w ra (l.getD i noKnow).refs ∧ (l.getD i noKnow).refs.length ≤ 100
theorem KnowAt.upd {w w' : World} {a : Option Addr} {l : List Know} (h : KnowAt w a l) (u : Upd [] w w') : KnowAt w' a l := fun i hi => by
  obtain ⟨g, o, ra, rk, e, c0, c1, c2, c3, c4, c5⟩ := h i hi
  exact ⟨g, o, ra, rk, e, u.cell c0 (by simp), u.cell c1 (by simp), u.cell c2 (by simp), u.cell c3 (by simp), c4.upd u, c5⟩
/-- A map from references to places. -/
def MapI (w : World) (b : Nat) (l : List Know) : Prop := ∃ m, IsMap w b m ∧ (∀ i, i < l.length → mlook m (l.getD i noKnow).ref = some (.int .i64 (i : Int))) ∧ ∀ x, x ∉ refsOf l → mlook m x = none
theorem MapI.upd {S : List Nat} {w w' : World} {b : Nat} {l : List Know} (h : MapI w b l) (u : Upd S w w') (hs : b ∉ S) : MapI w' b l := by
  obtain ⟨m, h1, h2⟩ := h
  exact ⟨m, h1.upd u hs, h2⟩
/-- A map of marks. -/
def MapB (w : World) (b : Nat) (S : List Int) : Prop := ∃ m, IsMap w b m ∧ ∀ x, (mlook m x).getD (.bool false) = .bool (decide (x ∈ S))
theorem MapB.upd {T : List Nat} {w w' : World} {b : Nat} {S : List Int} (h : MapB w b S) (u : Upd T w w') (hs : b ∉ T) : MapB w' b S := by
  obtain ⟨m, h1, h2⟩ := h
  exact ⟨m, h1.upd u hs, h2⟩
theorem MapB.lt {w : World} {b : Nat} {S : List Int} (h : MapB w b S) : b < w.heap.size := by obtain ⟨m, h1, -⟩ := h; exact h1.lt
theorem MapI.lt {w : World} {b : Nat} {l : List Know} (h : MapI w b l) : b < w.heap.size := by obtain ⟨m, h1, -⟩ := h; exact h1.lt
theorem MapB.nil (w : World) : MapB (w.alloc (.map #[] 0)) w.heap.size [] := ⟨[], IsMap.made w, fun _x => rfl⟩
theorem MapB.put {w' : World} {b : Nat} {m : Mp} {S : List Int} (hf : ∀ x, (mlook m x).getD (.bool false) = .bool (decide (x ∈ S))) {t : Int} (h : IsMap w' b (mput m t (.bool true))) : MapB w' b (S ++ [t]) := by
  refine ⟨_, h, fun x => ?_⟩
  rw [mlook_put]
  by_cases c : t = x
  · subst c; simp
  · rw [if_neg c, hf x]
    have : x ≠ t := fun q => c q.symm
    simp [this]
theorem MapB.look {w : World} {b : Nat} {S : List Int} (h : MapB w b S) (x : Int) : (Instr.lookup 58 (.map (some b)) (.int .i64 x) false).run Try.prog w = .ok (.bool (decide (x ∈ S))) w := by
  obtain ⟨m, h1, h2⟩ := h
  rw [(run_look h1 Try.underlying58 Try.underlying3 (Try.zeroValue4 w) x).1, h2 x]
theorem MapI.look {w : World} {b : Nat} {l : List Know} (h : MapI w b l) {i : Nat} (hi : i < l.length) : (Instr.lookup 47 (.map (some b)) (.int .i64 (l.getD i noKnow).ref) false).run Try.prog w = .ok (.int .i64 (i : Int)) w := by
  obtain ⟨m, h1, h2, h3⟩ := h
  rw [(run_look h1 Try.underlying47 Try.underlying3 (Try.zeroValue3 w) _).1, h2 i hi]
  rfl
theorem mem_refsOf {l : List Know} {x : Int} (h : x ∈ refsOf l) : ∃ i, i < l.length ∧ (l.getD i noKnow).ref = x := by
  obtain ⟨k, hk, e⟩ := List.mem_map.1 h
  obtain ⟨i, hi, e2⟩ := List.mem_iff_getElem.1 hk
  refine ⟨i, hi, ?_⟩
  rw [List.getD_eq_getElem?_getD, List.getElem?_eq_getElem hi]
  show (l[i]).ref = x
  rw [e2, e]
theorem MapI.has {w : World} {b : Nat} {l : List Know} (h : MapI w b l) (x : Int) : ∃ y : Int, (Instr.lookup 47 (.map (some b)) (.int .i64 x) true).run Try.prog w = .ok (.tuple #[.int .i64 y, .bool (decide (x ∈ refsOf l))]) w := by
  obtain ⟨m, h1, h2, h3⟩ := h
  rw [(run_look h1 Try.underlying47 Try.underlying3 (Try.zeroValue3 w) x).2]
  by_cases c : x ∈ refsOf l
  · obtain ⟨i, hi, e⟩ := mem_refsOf c
    have := h2 i hi
    rw [e] at this
    rw [this]
    exact ⟨i, by simp [c]⟩
  · rw [h3 x c]
    exact ⟨0, by simp [c]⟩
theorem getD_mem {l : List Know} {i : Nat} (hi : i < l.length) : l.getD i noKnow ∈ l := by
  rw [List.getD_eq_getElem?_getD, List.getElem?_eq_getElem hi]
  exact List.getElem_mem hi
theorem take_snoc (l : List Know) (i : Nat) (hi : i < l.length) : l.take (i + 1) = l.take i ++ [l.getD i noKnow] := by
  rw [List.take_add_one, List.getD_eq_getElem?_getD, List.getElem?_eq_getElem hi]
  rfl
theorem getD_take (l : List Know) (i j : Nat) (hi : i < j) : (l.take j).getD i noKnow = l.getD i noKnow := by
  rw [List.getD_eq_getElem?_getD, List.getElem?_take_of_lt hi, ← List.getD_eq_getElem?_getD]
theorem refs_new {l : List Know} (hd : (refsOf l).Nodup) {j : Nat} (hj : j < l.length) : (l.getD j noKnow).ref ∉ refsOf (l.take j) := fun h => by
  have e : refsOf (l.take (j + 1)) = refsOf (l.take j) ++ [(l.getD j noKnow).ref] := by rw [take_snoc l j hj]; simp [refsOf]
  have hs : (refsOf (l.take (j + 1))).Sublist (refsOf l) := (List.take_sublist _ _).map _
  have := hd.sublist hs
  rw [e, List.nodup_append] at this
  exact this.2.2 _ h _ (by simp) rfl

set_option maxHeartbeats 4000000 in
set_option maxRecDepth 100000 in
theorem index_any {w : World} (a : Option Addr) (l : List Know) (n k : Nat) (hn : n = l.length) (h480 : n ≤ 480) (hd : (refsOf l).Nodup) (hK : KnowAt w a l) :
    Calls Try.prog 35 #[.slice a n k] w fun e w' => ∃ b, e = .returned (.tuple #[.map (some b), .int .i64 0]) ∧ MapI w' b l ∧ w.heap.size ≤ b ∧ Upd [] w w' := by
  have HN := hid hn
  have HD := hid hd
  have HK := hid hK
  clear hn hd hK
  obtain ⟨b, hb⟩ : ∃ b, b = w.heap.size := ⟨_, rfl⟩
  have hmm := @run_makeMap Try.prog
  go_enter Try.func35, Try.ntmps35
  go_wp2_with fail
  rw [← hb]
  have HB := hid hb
  clear hb
  go_loopg [15] n (fun d v15 wr => ∃ (i : Nat), v15 = .int .i64 (i : Int) ∧ i ≤ n ∧ Hid (i + d = n) ∧ Hid (MapI wr b (l.take i)) ∧ Hid (Upd [] w wr))
  case atStart => exact ⟨0, rfl, by omega, hid (by omega), hid (by rw [HB.out]; exact ⟨[], IsMap.made w, fun i hi => by simp at hi, fun x _ => rfl⟩), hid ((Upd.refl [] w).alloc _)⟩
  case round =>
    obtain ⟨i, rfl, hi, Hd, HM, HU⟩ := hrel
    by_cases hin : i < n
    · have hil : i < l.length := by rw [← HN.out]; exact hin
      obtain ⟨g, o, ra, rk, rfl, c0, c1, c2, c3, -, -⟩ := HK.out.upd HU.out i hil
      obtain ⟨x, hx⟩ : ∃ x, x = (l.getD i noKnow).ref := ⟨_, rfl⟩
      obtain ⟨aw, haw⟩ : ∃ x, x = (l.getD i noKnow).awake := ⟨_, rfl⟩
      obtain ⟨ro, hro⟩ : ∃ x, x = (l.getD i noKnow).root := ⟨_, rfl⟩
      obtain ⟨rl, hrl⟩ : ∃ x, x = (l.getD i noKnow).refs.length := ⟨_, rfl⟩
      rw [← hx] at c0
      rw [← haw] at c1
      rw [← hro] at c2
      rw [← hrl] at c3
      have hi' : (i : Int) < (n : Int) := by omega
      have HX := hid hx
      have hnew := refs_new HD.out hil
      rw [← hx] at hnew
      obtain ⟨m, hm, h2, h3⟩ := HM.out
      have LK : ∀ o, ∃ z, (Instr.lookup 47 (.map (some b)) (.int .i64 x) true).run Try.prog (wr.alloc o) = .ok (.tuple #[z, .bool false]) (wr.alloc o) := fun o => by
        rw [(run_look (hm.alloc o) Try.underlying47 Try.underlying3 (Try.zeroValue3 _) x).2, h3 x hnew]
        exact ⟨_, rfl⟩
      obtain ⟨z, LK⟩ := LK (.cells #[.int .i64 x, .bool aw, .bool ro, .slice ra rl rk] 31)
      have HM1 := hid (hm.alloc (.cells #[.int .i64 x, .bool aw, .bool ro, .slice ra rl rk] 31))
      have H2 := hid h2
      have H3 := hid h3
      have HNEW := hid hnew
      have BL := hid hm.lt
      clear hx haw hro hrl hm h2 h3 hnew
      go_wp2_with (first | (at_mapUpdate; refine wpList_put rfl _ _ _ 47 rfl 3 3 Try.underlying47 Try.underlying3 b m rfl HM1.out x (.int .i64 (i : Int)) rfl rfl ?_; intro w3 hm3 hu3; have HM3 := hid hm3; have U3 := hid hu3; clear hm3 hu3))
      go_roundg (n - (i + 1))
      case measure => have := Hd.out; omega
      case rel =>
        have hil : i < l.length := by rw [← HN.out]; exact hin
        have e1 := take_snoc l i hil
        have htl : (l.take i).length = i := by rw [List.length_take]; omega
        refine ⟨i + 1, by go_num, by omega, hid (by omega), hid ⟨_, HM3.out, fun j hj => ?_, fun y hy => ?_⟩, hid ((HU.out.alloc _).trans U3.out (fun t ht => .inr (by simp at ht; subst ht; rw [HB.out]; exact Nat.le_refl _)))⟩
        · have hj1 : j < i + 1 := by rw [List.length_take] at hj; omega
          rw [mlook_put, getD_take l j (i + 1) hj1]
          by_cases c : j = i
          · subst c; rw [← HX.out, if_pos rfl]
          · have hji : j < i := by omega
            have hm : (l.getD j noKnow).ref ∈ refsOf (l.take i) := by
              rw [← getD_take l j i hji]
              exact List.mem_map.2 ⟨_, getD_mem (by omega), rfl⟩
            rw [if_neg (fun q => HNEW.out (by rw [q]; exact hm)), ← getD_take l j i hji]
            exact H2.out j (by omega)
        · have e2 : refsOf (l.take (i + 1)) = refsOf (l.take i) ++ [x] := by rw [e1, HX.out]; simp [refsOf]
          rw [e2] at hy
          rw [mlook_put, if_neg (fun q => hy (by simp [q]))]
          exact H3.out y (fun q => hy (List.mem_append_left _ q))
    · have hni : ¬ (i : Int) < (n : Int) := by omega
      go_wp2_with fail
      go_ret2
      have e : i = n := by omega
      refine ⟨b, rfl, ?_, by have := HB.out; omega, HU.out⟩
      have h := HM.out
      rw [e, HN.out, List.take_length] at h
      exact h
end Go.Proofs.Ytgocminfohbedaa.Cy
