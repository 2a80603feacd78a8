/- explore: programs and states in memory; may, step, as. -/
import Derived.Test.YtklacfdbpmkiiaaX
import Derived.Test.YtklacfdbpmkiiaaA
import Derived.Test.YtklacfdbpmkiiaaPc
import Derived.Test.YtklacfdbpmkiiaaMS
import Derived.Deep.LoopGhost
import Derived.Deep.MidRow
import Derived.Laws.Rows
namespace Go.Proofs.Ytklacfdbpmkiiaa.Y
open Go Go.RowKit Go.Proofs.Ytklacfdbpmkiiaa Go.Proofs.Ytklacfdbpmkiiaa.K Go.Proofs.Ytklacfdbpmkiiaa.M Go.Proofs.Ytklacfdbpmkiiaa.O Go.Proofs.Ytklacfdbpmkiiaa.R Go.Proofs.Ytklacfdbpmkiiaa.A
open Go.Proofs.Ytklacfdbpmkiiaa.X (D St Ps noD act wr dep may newC newH stp)

def nv (x : Nat) : Value := .int .i64 (x : Int)
/-- A state's cells. -/
def stl (s : St) : List Value := [nv (s.c.getD 0 0), nv (s.c.getD 1 0), nv (s.c.getD 2 0), nv (s.c.getD 3 0), nv (s.h.getD 0 0), nv (s.h.getD 1 0), nv (s.h.getD 2 0), nv (s.h.getD 3 0), nv (s.a.getD 0 0), nv (s.a.getD 1 0), nv (s.a.getD 2 0), nv (s.a.getD 3 0)]
def stv (s : St) : Value := .agg (stl s).toArray
theorem stl_c (s : St) (i : Nat) (hi : i < 4) : (stl s)[i]? = some (nv (s.c.getD i 0)) := by
  rcases (show i = 0 ∨ i = 1 ∨ i = 2 ∨ i = 3 by omega) with rfl | rfl | rfl | rfl <;> rfl
theorem stl_h (s : St) (i : Nat) (hi : i < 4) : (stl s)[4 + i]? = some (nv (s.h.getD i 0)) := by
  rcases (show i = 0 ∨ i = 1 ∨ i = 2 ∨ i = 3 by omega) with rfl | rfl | rfl | rfl <;> rfl
theorem stl_a (s : St) (i : Nat) (hi : i < 4) : (stl s)[8 + i]? = some (nv (s.a.getD i 0)) := by
  rcases (show i = 0 ∨ i = 1 ∨ i = 2 ∨ i = 3 by omega) with rfl | rfl | rfl | rfl <;> rfl
/-- A program in memory. -/
def DoAt (w : World) (a : Option Addr) (l : List D) : Prop := ∀ k, k < l.length → ∃ g cs, a = some ⟨g, 0, none⟩ ∧ w.heap[g]? = some (.cells cs 49 (0, 0)) ∧ cs[k * 3]? = some (nv (l.getD k noD).kind) ∧ cs[k * 3 + 1]? = some (nv (l.getD k noD).cell) ∧ cs[k * 3 + 2]? = some (nv (l.getD k noD).val)
/-- Programs in memory. -/
def PAt (w : World) (a : Option Addr) (P : Ps) : Prop := ∀ i, i < P.length → ∃ r cs b cap, a = some ⟨r, 0, none⟩ ∧ w.heap[r]? = some (.cells cs 46 (0, 0)) ∧ cs[i]? = some (.slice b (P.getD i []).length cap) ∧ (P.getD i []).length ≤ cap ∧ cap ≤ 9223372036854775807 ∧ DoAt w b (P.getD i [])
/-- Blocks that are of neither kind. -/
def Off (w : World) (T : List Nat) : Prop := ∀ k ∈ T, ∀ cs f, w.heap[k]? ≠ some (.cells cs 46 f) ∧ w.heap[k]? ≠ some (.cells cs 49 f)
theorem Off.nil (w : World) : Off w [] := fun _ h => by cases h
theorem DoAt.keep {w w' : World} {a : Option Addr} {l : List D} (h : DoAt w a l) {T : List Nat} (u : Upd T w w') (ho : Off w T) : DoAt w' a l := fun k hk => by
  obtain ⟨g, cs, e, hb, h1, h2, h3⟩ := h k hk
  exact ⟨g, cs, e, u.blk hb (fun hm => (ho g hm cs _).2 hb), h1, h2, h3⟩
theorem PAt.keep {w w' : World} {a : Option Addr} {P : Ps} (h : PAt w a P) {T : List Nat} (u : Upd T w w') (ho : Off w T) : PAt w' a P := fun i hi => by
  obtain ⟨r, cs, b, cap, e, hb, h1, h2, h3, h4⟩ := h i hi
  exact ⟨r, cs, b, cap, e, u.blk hb (fun hm => (ho r hm cs _).1 hb), h1, h2, h3, h4.keep u ho⟩
theorem PAt.new {w w' : World} {a : Option Addr} {P : Ps} (h : PAt w a P) (u : Upd [] w w') : PAt w' a P := h.keep u (Off.nil w)
/-- What all programs here are. -/
structure Ok (P : Ps) : Prop where
  few : P.length ≤ 4
  do' : ∀ l ∈ P, ∀ d ∈ l, 1 ≤ d.kind ∧ d.kind ≤ 4 ∧ d.cell < 4 ∧ d.val ≤ 2
  len : (P.map List.length).sum ≤ 12
/-- What all states here are. -/
structure SOk (P : Ps) (s : St) : Prop where
  cl : s.c.length = 4
  hl : s.h.length = 4
  al : s.a.length = 4
  at' : ∀ i, s.a.getD i 0 ≤ (P.getD i []).length
  cs : ∀ i, s.c.getD i 0 + 2 * X.rem P s ≤ 24
  hs : ∀ i, s.h.getD i 0 + 2 * X.rem P s ≤ 24
theorem Ok.get {P : Ps} (h : Ok P) (i k : Nat) : (((P.getD i []).getD k noD).cell < 4 ∧ ((P.getD i []).getD k noD).val ≤ 2) ∧ 1 ≤ ((P.getD i []).getD k noD).kind ∧ ((P.getD i []).getD k noD).kind ≤ 4 := by
  by_cases hi : i < P.length
  · by_cases hk : k < (P.getD i []).length
    · have := h.do' _ (X.mem_getD P i [] hi) _ (X.mem_getD _ k noD hk)
      omega
    · rw [show (P.getD i []).getD k noD = noD by rw [List.getD_eq_getElem?_getD (l := P.getD i []), List.getElem?_eq_none (Nat.le_of_not_lt hk)]; rfl]
      simp [noD]
  · rw [show (P.getD i []).getD k noD = noD by rw [List.getD_eq_getElem?_getD (l := P), List.getElem?_eq_none (Nat.le_of_not_lt hi)]; rfl]
    simp [noD]
theorem blk_new2 (w : World) (o o' : Obj) : ((w.alloc o).alloc o').heap[w.heap.size + 1]? = some o' := by
  have h := K.blk_new (w.alloc o) o'
  rw [World.size_alloc] at h; exact h
theorem beq_nat (x y : Nat) : ((x : Int) == (y : Int)) = (x == y) := by
  rw [Bool.eq_iff_iff]; simp; omega
theorem cell_lt {w : World} {g i : Nat} {v : Value} (h : w.cell? ⟨g, i, none⟩ = some v) : g < w.heap.size := by
  unfold World.cell? at h
  cases e : w.heap[g]? with
  | none => simp [e] at h
  | some o => exact K.blk_lt e
theorem le_sum {l : List Nat} {x : Nat} : x ∈ l → x ≤ l.sum := by
  induction l with
  | nil => intro h; cases h
  | cons y l ih =>
    intro h
    rw [List.sum_cons]
    rcases List.mem_cons.1 h with q | q
    · omega
    · have := ih q; omega
theorem len_le (P : Ps) (h : Ok P) (i : Nat) : (P.getD i []).length ≤ 12 := by
  by_cases hi : i < P.length
  · have h1 : (P.getD i []).length ∈ P.map List.length := List.mem_map.2 ⟨_, X.mem_getD P i [] hi, rfl⟩
    exact Nat.le_trans (le_sum h1) h.len
  · rw [show P.getD i [] = [] by rw [List.getD_eq_getElem?_getD, List.getElem?_eq_none (Nat.le_of_not_lt hi)]; rfl]
    simp
/-- The block of a state. -/
theorem st_blk (w : World) (s : St) : Arr (w.alloc (.cells (stl s).toArray 35)) w.heap.size 35 12 (fun z => (stl s).getD z undef) := arr_new w _ 35 12 _ rfl (fun z hz => by
  rw [List.getD_eq_getElem?_getD]
  have : z < (stl s).length := hz
  rw [List.getElem?_eq_getElem this]; rfl)
theorem st_open (s : St) : ∃ x0 x1 x2 x3 x4 x5 x6 x7 x8 x9 x10 x11 : Nat, stl s = [.int .i64 (x0 : Int), .int .i64 (x1 : Int), .int .i64 (x2 : Int), .int .i64 (x3 : Int), .int .i64 (x4 : Int), .int .i64 (x5 : Int), .int .i64 (x6 : Int), .int .i64 (x7 : Int), .int .i64 (x8 : Int), .int .i64 (x9 : Int), .int .i64 (x10 : Int), .int .i64 (x11 : Int)] := ⟨_, _, _, _, _, _, _, _, _, _, _, _, rfl⟩
theorem getD_of {l : List Value} {i : Nat} {v : Value} (h : l[i]? = some v) : l.getD i undef = v := by rw [List.getD_eq_getElem?_getD, h]; rfl

set_option maxHeartbeats 4000000 in
set_option maxRecDepth 100000 in
theorem may_any (a : Option Addr) (cap : Nat) (P : Ps) (s : St) (i : Nat) (w : World) (hP : PAt w a P) (hi : i < P.length) (_hc1 : P.length ≤ cap) (_hc2 : cap ≤ 9223372036854775807) (ok : Ok P) (so : SOk P s) :
    Calls Try.prog 24 #[.slice a P.length cap, stv s, .int .i64 (i : Int)] w fun e w' => e = .returned (.bool (may P s i)) ∧ Upd [] w w' := by
  obtain ⟨r, cs, b, capb, rfl, hb, he, hlc, hcm, hd⟩ := hP i hi
  have hi4 : i < 4 := Nat.lt_of_lt_of_le hi ok.few
  have hA := st_blk w s
  have hD := K.blk_alloc hb (.cells (stl s).toArray 35)
  obtain ⟨E, hE⟩ : ∃ E, E = w.heap.size := ⟨_, rfl⟩
  obtain ⟨ai, hai⟩ : ∃ x, x = s.a.getD i 0 := ⟨_, rfl⟩
  obtain ⟨ln, hln⟩ : ∃ x, x = (P.getD i []).length := ⟨_, rfl⟩
  rw [← hE] at hA
  have HLN := hid hln
  have HAI := hid hai
  have ha0 : ai ≤ ln := by rw [hai, hln]; exact so.at' i
  have hn := len_le P ok i
  rw [← hln] at hn he hlc
  obtain ⟨n, hn'⟩ : ∃ n, n = P.length := ⟨_, rfl⟩
  have hi' : i < n := by rw [hn']; exact hi
  rw [← hn'] at _hc1 ⊢
  have SA := hid so
  have SO := hid ok
  unfold stv
  clear hn' hln hai hP hi so ok
  obtain ⟨x0, x1, x2, x3, x4, x5, x6, x7, x8, x9, x10, x11, hst⟩ := st_open s
  have HST := hid hst
  rw [hst] at hA hD ⊢
  clear hst
  go_enter Try.func24, Try.ntmps24
  go_wp2_with fail
  obtain ⟨W, hW⟩ : ∃ W, W = w.alloc (.cells #[.int .i64 (x0 : Int), .int .i64 (x1 : Int), .int .i64 (x2 : Int), .int .i64 (x3 : Int), .int .i64 (x4 : Int), .int .i64 (x5 : Int), .int .i64 (x6 : Int), .int .i64 (x7 : Int), .int .i64 (x8 : Int), .int .i64 (x9 : Int), .int .i64 (x10 : Int), .int .i64 (x11 : Int)] 35) := ⟨_, rfl⟩
  have UW := hid (show Upd [] w W by rw [hW]; exact (Upd.refl [] w).alloc _)
  have hr : W.cell? ⟨r, i, none⟩ = some (.slice b ln capb) := by rw [hW]; exact (K.blk_cell hD i).trans he
  have hAW : Arr W E 35 12 (fun z => (stl s).getD z undef) := by rw [hW, HST.out]; exact hA
  have hai : W.cell? ⟨E, 8 + i, none⟩ = some (.int .i64 (ai : Int)) := hAW.val (by omega) (by rw [getD_of (stl_a s i hi4), HAI.out]; rfl)
  have HA := hid hAW
  rw [← hE]
  rw [← hW]
  clear hE hW hD hA hAW
  by_cases hal : ai = ln
  · go_quiet (fail)
    go_wp2_with fail
    go_ret
    refine ⟨?_, UW.out.drewN _⟩
    have : may P s i = false := by
      unfold X.may
      rw [← HLN.out, ← HAI.out, decide_eq_false (by omega)]; rfl
    rw [this]; rfl
  · have hlt : ai < ln := by omega
    obtain ⟨g, ds, hbe, hgb, e0, e1, e2⟩ := hd ai (by rw [← HLN.out]; exact hlt)
    obtain ⟨d, hd'⟩ : ∃ d, d = (P.getD i []).getD ai noD := ⟨_, rfl⟩
    have hgo := (SO.out.get i ai).1
    rw [← hd'] at e0 e1 e2 hgo
    obtain ⟨kd, c, v⟩ := d
    have hca : (⟨kd, c, v⟩ : D) = act P s i := by rw [hd']; unfold X.act; rw [HAI.out]
    have HCA := hid hca
    simp only at e0 e1 e2 hgo
    obtain ⟨hc4, hv2⟩ := hgo
    subst hbe
    have UG := UW.out.blk hgb (by simp)
    go_quiet (fail)
    obtain ⟨V, hV⟩ : ∃ V, V = W.drewN nq := ⟨_, rfl⟩
    have UV := hid (show Upd [] w V by rw [hV]; exact UW.out.drewN _)
    have HAV := hid (show Arr V E 35 12 (fun z => (stl s).getD z undef) by rw [hV]; exact HA.out)
    have f0 : V.cell? ⟨g, ai * 3, none⟩ = some (.int .i64 (kd : Int)) := by rw [hV]; exact (K.blk_cell UG _).trans e0
    have f1 : V.cell? ⟨g, ai * 3 + 1, none⟩ = some (.int .i64 (c : Int)) := by rw [hV]; exact (K.blk_cell UG _).trans e1
    have f2 : V.cell? ⟨g, ai * 3 + 2, none⟩ = some (.int .i64 (v : Int)) := by rw [hV]; exact (K.blk_cell UG _).trans e2
    have f3 : V.cell? ⟨r, i, none⟩ = some (.slice (some ⟨g, 0, none⟩) ln capb) := by rw [hV]; exact hr
    have f4 : V.cell? ⟨E, 8 + i, none⟩ = some (.int .i64 (ai : Int)) := by rw [hV]; exact hai
    rw [← hV]
    clear hca hd' e0 e1 e2 hgb UG hd hV hr hai UW HA
    have hi4i : (i : Int) < 4 := by omega
    have hlti : (ai : Int) < (ln : Int) := by omega
    have hini : (i : Int) < (n : Int) := by omega
    go_upto_region 3 with (fail)
    have lr : r < V.heap.size := cell_lt f3
    have lg : g < V.heap.size := cell_lt f0
    have lE : E < V.heap.size := cell_lt f4
    go_region
    obtain ⟨Y, hY⟩ : ∃ Y, Y = V.heap.size := ⟨_, rfl⟩
    obtain ⟨V2, hV2⟩ : ∃ V2, V2 = (V.alloc (.cells #[.int .i64 (kd : Int), .int .i64 (c : Int), .int .i64 (v : Int)] 49)).drew := ⟨_, rfl⟩
    have hb2 : V2.heap[Y]? = some (.cells #[.int .i64 (kd : Int), .int .i64 (c : Int), .int .i64 (v : Int)] 49 (0, 0)) := by rw [hV2, hY]; exact K.blk_new _ _
    have U2 := hid (show Upd [] w V2 by rw [hV2]; exact (UV.out.alloc _).drew)
    have q0 := (K.blk_cell hb2 0).trans rfl
    have q1 := (K.blk_cell hb2 1).trans rfl
    have q2 := (K.blk_cell hb2 2).trans rfl
    obtain ⟨xc, hxc⟩ : ∃ x, x = s.c.getD c 0 := ⟨_, rfl⟩
    have q3 : V2.cell? ⟨E, c, none⟩ = some (.int .i64 (xc : Int)) := by
      rw [hV2]
      refine (HAV.out.alloc _).val (by omega) ?_
      rw [getD_of (stl_c s c hc4), hxc]; rfl
    rw [← hV2]
    rw [← hY]
    have hm : may P s i = ((kd != 4) || (xc == v)) := by
      unfold X.may
      rw [← HCA.out, hxc, ← HLN.out, ← HAI.out, decide_eq_true hlt]; rfl
    have HM := hid hm
    have hc4i : (c : Int) < 4 := by omega
    clear f0 f1 f2 f3 f4 lr lg lE hV2 hY hb2 hxc hm HAV UV
    by_cases hk : kd = 4
    · have hk' : (kd : Int) = 4 := by omega
      subst hk
      go_upto_region 4 with (fail)
      go_quiet (fail)
      go_wp2_with fail
      go_ret
      refine ⟨?_, U2.out.drewN _⟩
      rw [HM.out, ← beq_nat]; rfl
    · have hk' : ¬ (kd : Int) = 4 := by omega
      go_upto_region 4 with (fail)
      go_quiet (fail)
      go_wp2_with fail
      go_ret
      refine ⟨?_, U2.out.drewN _⟩
      rw [HM.out, show (kd != 4) = true by simpa using hk]; rfl

/-- A result that lies in a block of its own. -/
theorem results_cell {P : Program} {fn : Func} {a : Tmp} {t ct : TypeId} (h : fn.results = #[.cell a t]) {tmps : Array Value} {w : World} {g : Nat} {cs : Array Value} {d : TypeDesc} (hp : tmps.getD a undef = .pointer (some ⟨g, 0, none⟩)) (hg : w.heap[g]? = some (.cells cs ct (0, 0)))
    (hu : P.underlying t = some d) (hd : (match d with | .struct _ | .array _ _ => true | _ => false) = true) (hi : (P.info? t).map (·.size) = some cs.size) : (results fn tmps).run P w = .ok (.agg cs) w := by
  have hl := run_loadVar_row w g ct t cs (0, 0) d hg hu hd hi
  have hp' : tmps[a]?.getD undef = .pointer (some ⟨g, 0, none⟩) := by simpa using hp
  unfold results
  simp [h, hp', asAddr, hl]
/-- A step as part has it. -/
def rdN (d : D) : Nat := if d.kind = 2 then 0 else 2 ^ d.cell
def wrN (d : D) : Nat := if d.kind = 2 ∨ d.kind = 3 then 2 ^ d.cell else 0
def asS (i : Nat) (d : D) : Pa.St := ⟨⟨i % 8, Nat.mod_lt _ (by decide)⟩, ⟨rdN d % 256, Nat.mod_lt _ (by decide)⟩, ⟨wrN d % 256, Nat.mod_lt _ (by decide)⟩⟩
set_option maxHeartbeats 4000000 in
set_option maxRecDepth 100000 in
theorem as_any (d : D) (i : Nat) (w : World) (hi : i < 8) (hk1 : 1 ≤ d.kind) (hk4 : d.kind ≤ 4) (hc : d.cell < 4) :
    Calls Try.prog 26 #[.agg #[nv d.kind, nv d.cell, nv d.val], .int .i64 (i : Int)] w fun e w' => e = .returned (.agg (Pa.stc (asS i d)).toArray) ∧ Upd [] w w' := by
  obtain ⟨kd, c, v⟩ := d
  simp only at hk1 hk4 hc
  have e : Pa.stc (asS i ⟨kd, c, v⟩) = [.int .i64 (i : Int), .int .i64 ((if kd = 2 then 0 else 2 ^ c : Nat) : Int), .int .i64 ((if kd = 2 ∨ kd = 3 then 2 ^ c else 0 : Nat) : Int)] := by
    have : i % 8 = i := Nat.mod_eq_of_lt hi
    simp only [Pa.stc, asS, rdN, wrN, this]
    rcases (show c = 0 ∨ c = 1 ∨ c = 2 ∨ c = 3 by omega) with rfl | rfl | rfl | rfl <;> rcases (show kd = 1 ∨ kd = 2 ∨ kd = 3 ∨ kd = 4 by omega) with rfl | rfl | rfl | rfl <;> rfl
  rw [e]
  unfold nv
  clear e
  obtain ⟨g, hg⟩ : ∃ g, g = w.heap.size + 1 := ⟨_, rfl⟩
  rcases (show c = 0 ∨ c = 1 ∨ c = 2 ∨ c = 3 by omega) with rfl | rfl | rfl | rfl <;> rcases (show kd = 1 ∨ kd = 2 ∨ kd = 3 ∨ kd = 4 by omega) with rfl | rfl | rfl | rfl <;> (go_enter Try.func26, Try.ntmps26; go_wp2_with fail; refine bodyPost_ret (results_cell (ct := 56) rfl rfl (by first | exact blk_new2 w _ _ | exact K.blk_new _ _) Try.underlying56 rfl (by kernel_rfl)) rfl ?_; exact ⟨rfl, ((Upd.refl [] w).alloc _).alloc _⟩)
end Go.Proofs.Ytklacfdbpmkiiaa.Y
