/- explore.goOn: its walk. -/
import Derived.Test.YtklacfdbpmkiiaaYc
import Derived.Deep.CutBlock
import Derived.Deep.DeepCutAuto
namespace Go.Proofs.Ytklacfdbpmkiiaa.Y
open Go Go.RowKit Go.Proofs.Ytklacfdbpmkiiaa Go.Proofs.Ytklacfdbpmkiiaa.K Go.Proofs.Ytklacfdbpmkiiaa.M Go.Proofs.Ytklacfdbpmkiiaa.O Go.Proofs.Ytklacfdbpmkiiaa.R Go.Proofs.Ytklacfdbpmkiiaa.A Go.Proofs.Ytklacfdbpmkiiaa.MS
open Go.Proofs.Ytklacfdbpmkiiaa.X (D St Ps noD act wr dep may newC newH stp)

theorem depS_fin : ∀ kd, kd < 5 → ∀ c, c < 4 → ∀ ke, ke < 5 → ∀ e, e < 4 → (((if kd = 2 ∨ kd = 3 then 2 ^ c else 0) % 256 &&& ((if ke = 2 then 0 else 2 ^ e) % 256 ||| (if ke = 2 ∨ ke = 3 then 2 ^ e else 0) % 256) != 0) || ((if ke = 2 ∨ ke = 3 then 2 ^ e else 0) % 256 &&& (if kd = 2 then 0 else 2 ^ c) % 256 != 0)) = (c == e && ((kd == 2 || kd == 3) || (ke == 2 || ke == 3))) := by decide
theorem depS_as {i j : Nat} {d e : D} (hi : i < 8) (hj : j < 8) (hd : d.kind ≤ 4 ∧ d.cell < 4) (he : e.kind ≤ 4 ∧ e.cell < 4) : Pa.depS (asS i d) (asS j e) = dep i d j e := by
  have h := depS_fin d.kind (by omega) d.cell hd.2 e.kind (by omega) e.cell he.2
  unfold Pa.depS X.dep
  simp only [asS, rdN, wrN, Nat.mod_eq_of_lt hi, Nat.mod_eq_of_lt hj, X.wr]
  rw [Bool.or_assoc, h]
/-- A step at hand, in memory. -/
theorem act_cells {w : World} {a : Option Addr} {P : Ps} {s : St} {k : Nat} (hP : PAt w a P) (hk : k < P.length) (hl : s.a.getD k 0 < (P.getD k []).length) :
    ∃ r g cap, a = some ⟨r, 0, none⟩ ∧ (P.getD k []).length ≤ cap ∧ ∀ T wz, Upd T w wz → Off w T → wz.cell? ⟨r, k, none⟩ = some (.slice (some ⟨g, 0, none⟩) (P.getD k []).length cap) ∧ wz.cell? ⟨g, s.a.getD k 0 * 3, none⟩ = some (nv (act P s k).kind) ∧ wz.cell? ⟨g, s.a.getD k 0 * 3 + 1, none⟩ = some (nv (act P s k).cell) ∧ wz.cell? ⟨g, s.a.getD k 0 * 3 + 2, none⟩ = some (nv (act P s k).val) := by
  obtain ⟨r, cs, b, capb, rfl, hb, he, hlc, hcm, hd⟩ := hP k hk
  obtain ⟨g, ds, rfl, hgb, e0, e1, e2⟩ := hd _ hl
  refine ⟨r, g, capb, rfl, hlc, fun T wz u ho => ?_⟩
  have h1 := u.blk hb (fun hm => (ho r hm cs _).1 hb)
  have h2 := u.blk hgb (fun hm => (ho g hm ds _).2 hgb)
  exact ⟨(K.blk_cell h1 _).trans he, (K.blk_cell h2 _).trans e0, (K.blk_cell h2 _).trans e1, (K.blk_cell h2 _).trans e2⟩
def pre (way : List Nat) (x : List Nat × St) : List Nat := way ++ x.1
/-- What goOn leaves. -/
def Res (w w' : World) (F M : Nat) (v : Value) (os : List (List Nat)) (sts : List St) : Prop := ∃ (v' : Value) (us' : List Value), FAt w' F M v' us' os sts ∧ Upd (tch F M v) w w' ∧ (∀ k, v'.ownBlock = some k → v.ownBlock = some k ∨ w.heap.size ≤ k)
/-- goOn, with fewer than n steps to go. -/
def GoOn (n : Nat) : Prop := ∀ (a : Option Addr) (cap : Nat) (P : Ps) (s : St) (A : List Bool) (ba bc : Nat) (aw : Option Addr) (cw : Nat) (way : List Nat) (F M : Nat) (v : Value) (us : List Value) (os : List (List Nat)) (sts : List St) (w : World),
  PAt w a P → P.length ≤ cap → cap ≤ 9223372036854775807 → 1 ≤ P.length → Ok P → SOk P s → X.rem P s < n → X.Sl P s A → Arr w ba 4 P.length (fun k => .bool (A.getD k false)) → P.length ≤ bc → OrdAt w (.slice aw way.length cw) way → way.length + X.rem P s ≤ 12 → FAt w F M v us os sts → os.length + 4 ^ n ≤ 1000000000 →
  Calls Try.prog 22 #[.slice a P.length cap, stv s, .slice (some ⟨ba, 0, none⟩) P.length bc, .slice aw way.length cw, .pointer (some ⟨F, 0, none⟩)] w fun e w' => e = .returned (.tuple #[]) ∧ Res w w' F M v (os ++ (X.go P n s A).map (pre way)) (addAll sts ((X.go P n s A).map (·.2)))
/-- In the loop. -/
structure Mid (P : Ps) (s : St) (A0 : List Bool) (n : Nat) (way : List Nat) (os : List (List Nat)) (sts : List St) (F M : Nat) (v0 : Value) (w : World) (E b2 j : Nat) (wr : World) (mv : Bool) (A : List Bool) (v : Value) (us : List Value) (osj : List (List Nat)) (stj : List St) : Prop where
  len : osj.length ≤ os.length + j * 4 ^ n
  s1 : os ++ (X.goL (X.go P n) P s (List.range P.length) A0).map (pre way) = osj ++ (X.goL (X.go P n) P s ((List.range P.length).drop j) A).map (pre way)
  s2 : addAll sts ((X.goL (X.go P n) P s (List.range P.length) A0).map (·.2)) = addAll stj ((X.goL (X.go P n) P s ((List.range P.length).drop j) A).map (·.2))
  sl : X.Sl P s A
  mv : mv = (List.range j).any (may P s)
  arr : Arr wr b2 4 P.length (fun k => .bool (A.getD k false))
  fat : FAt wr F M v us osj stj
  upd : Upd (tch F M v0) w wr
  own : ∀ k, v.ownBlock = some k → v0.ownBlock = some k ∨ w.heap.size ≤ k
  box : Arr wr E 35 12 (stf s)
theorem drop_range {N j : Nat} (h : j < N) : (List.range N).drop j = j :: (List.range N).drop (j + 1) := by
  rw [List.drop_eq_getElem_cons (by simpa using h)]; simp

theorem goL_skip {rec : St → List Bool → List (List Nat × St)} {P : Ps} {s : St} {k : Nat} {ks : List Nat} {A : List Bool} (h : may P s k = false ∨ A.getD k false = true) : X.goL rec P s (k :: ks) A = X.goL rec P s ks A := by
  show (if (may P s k && !(A.getD k false)) = true then _ else _) = _
  rw [if_neg]
  rcases h with h | h
  · rw [h]; simp
  · rw [h]; simp
theorem goL_go {rec : St → List Bool → List (List Nat × St)} {P : Ps} {s : St} {k : Nat} {ks : List Nat} {A : List Bool} (hm : may P s k = true) (ha : A.getD k false = false) : X.goL rec P s (k :: ks) A = (rec (stp P s k) (X.nxt P s A k)).map (fun x => (k :: x.1, x.2)) ++ X.goL rec P s ks (A.set k true) := by
  show (if (may P s k && !(A.getD k false)) = true then _ else _) = _
  rw [hm, ha]; rfl
theorem any_succ (f : Nat → Bool) (j : Nat) : (List.range (j + 1)).any f = ((List.range j).any f || f j) := by
  rw [List.range_succ, List.any_append]; simp
theorem FAt.put {w w6 : World} {F M : Nat} {v : Value} {us : List Value} {os : List (List Nat)} {sts : List St} {s : St} {S6 : List Value} (h : FAt w F M v us os sts) (h6 : IsSet Kst w6 M S6) (u6 : Upd [M] w w6) (hor : (stv s ∈ sts.map stv ∧ S6 = sts.map stv) ∨ (stv s ∉ sts.map stv ∧ S6 = sts.map stv ++ [stv s])) (h4 : W4 s) : FAt w6 F M v us os (addAll sts [s]) := by
  have hm := vals_mem h.w4 h4
  have eS : S6 = (addAll sts [s]).map stv := by
    show S6 = (if s ∈ sts then sts else sts ++ [s]).map stv
    rcases hor with ⟨a, b⟩ | ⟨a, b⟩
    · rw [if_pos (hm.1 a), b]
    · rw [if_neg (fun q => a (hm.2 q)), b, List.map_append]; rfl
  have hne : ∀ (k : Nat) (cs : Array Value) (t : TypeId), w.heap[k]? = some (.cells cs t (0, 0)) → k ∉ [M] := fun k cs t hb hk => by
    have e : k = M := by simpa using hk
    subst e; exact h.set.ne_cells hb rfl
  refine ⟨u6.blk h.blk (hne _ _ _ h.blk), own_upd h.own u6 (fun k hk => ?_), fun j hj => ?_, by rw [← eS]; exact h6, fun t ht => ?_⟩
  · obtain ⟨cur, hc⟩ := own_block h.own k hk
    exact hne _ _ _ hc
  · obtain ⟨a, cap, e, h1, h2, h3⟩ := h.row j hj
    exact ⟨a, cap, e, h1, h2, h3.keep u6 (fun k hk cs f hb => by
      have e : k = M := by simpa using hk
      subst e; exact h.set.ne_cells hb rfl)⟩
  · rcases (addAll_mem [s] sts t).1 ht with q | q
    · exact h.w4 t q
    · have : t = s := by simpa using q
      subst this; exact h4
theorem FAt.push {w w7 w9 : World} {F M : Nat} {v v2 u : Value} {us : List Value} {os : List (List Nat)} {sts : List St} {way : List Nat} (h : FAt w F M v us os sts) (u7 : Upd [] w w7) (hu : OrdAt w7 u way) (ho : w9.ownsRow 0 22 1 v2 (os.length + 1) (us ++ [u])) (u9 : Upd v.ownBlock.toList w7 w9) :
    FAt (w9.setCell ⟨F, 1, none⟩ v2) F M v2 (us ++ [u]) (os ++ [way]) sts := by
  have h7 := h.new u7
  have hn : ∀ {k : Nat} {cs : Array Value} {t : TypeId} {f : Nat × Nat}, w7.heap[k]? = some (.cells cs t f) → t ≠ 22 → k ∉ v.ownBlock.toList := fun hb ht hk => own_cells_ne h7.own hb (fun e => ht e.symm) _ (by simpa using hk) rfl
  have b9 := u9.blk h7.blk (hn h7.blk (by decide))
  have uF : Upd [F] w9 (w9.setCell ⟨F, 1, none⟩ v2) := (Upd.refl _ _).setCell (.inl (by simp)) _
  have hsM : IsSet Kst w9 M (sts.map stv) := h7.set.upd u9 (fun hk => by
    obtain ⟨cur, hc⟩ := own_block h7.own M (by simpa using hk)
    exact h7.set.ne_cells hc rfl)
  have keepO : ∀ {a : Option Addr} {l : List Nat}, IntsAt w7 a l → IntsAt (w9.setCell ⟨F, 1, none⟩ v2) a l := fun hi =>
    (hi.keep u9 (fun k hk cs f hb => hn hb (by decide) hk)).keep uF (fun k hk cs f hb => by
      have e : k = F := by simpa using hk
      subst e; rw [b9] at hb; cases hb)
  have hlen : us.length = os.length := by have := h.own.1; rw [Nat.mul_one] at this; exact this
  refine ⟨?_, ?_, fun j hj => ?_, hsM.upd uF ?_, h.w4⟩
  · have := K.blk_set b9 1 v2
    simpa using this
  · rw [List.length_append]
    exact own_upd ho uF (fun k hk hm => by
      have e : k = F := by simpa using hm
      subst e; exact own_cells_ne ho b9 (by decide) _ hk rfl)
  · rw [List.length_append] at hj
    simp only [List.length_cons, List.length_nil] at hj
    by_cases e : j < os.length
    · obtain ⟨a, cap, e1, h1, h2, h3⟩ := h7.row j e
      have g1 : (us ++ [u]).getD j undef = us.getD j undef := by simp only [List.getD_eq_getElem?_getD]; rw [List.getElem?_append_left (by omega)]
      have g2 : (os ++ [way]).getD j [] = os.getD j [] := by simp only [List.getD_eq_getElem?_getD]; rw [List.getElem?_append_left e]
      rw [g1, g2]
      exact ⟨a, cap, e1, h1, h2, keepO h3⟩
    · obtain rfl : j = os.length := by omega
      have g1 : (us ++ [u]).getD os.length undef = u := by rw [List.getD_eq_getElem?_getD, ← hlen]; simp
      have g2 : (os ++ [way]).getD os.length [] = way := by rw [List.getD_eq_getElem?_getD]; simp
      rw [g1, g2]
      obtain ⟨a, cap, e1, h1, h2, h3⟩ := hu
      exact ⟨a, cap, e1, h1, h2, keepO h3⟩
  · intro hk
    have e : M = F := by simpa using hk
    subst e
    exact hsM.ne_cells b9 rfl
theorem SOk.wf {P : Ps} {s : St} (ok : Ok P) (so : SOk P s) : X.Wf P s := by unfold X.Wf; rw [so.al]; exact ok.few
theorem SOk.stp {P : Ps} {s : St} (ok : Ok P) (so : SOk P s) {i : Nat} (hm : may P s i = true) : SOk P (stp P s i) := by
  have hr := X.rem_stp (SOk.wf ok so) hm
  obtain ⟨h1, h2⟩ := X.may_lt hm
  have hi4 : i < 4 := Nat.lt_of_lt_of_le h2 ok.few
  obtain ⟨⟨hc4, hv2⟩, hk1, hk4⟩ := ok.get i (s.a.getD i 0)
  have ea : act P s i = (P.getD i []).getD (s.a.getD i 0) noD := rfl
  rw [← ea] at hc4 hv2 hk1 hk4
  have hcs := so.cs
  have hhs := so.hs
  have gx : ∀ (l : List Nat) (q v z : Nat), l.length = 4 → (l.set q v).getD z 0 ≤ max v (l.getD z 0) := fun l q v z hl => by
    by_cases e : q = z
    · subst e
      by_cases hq : q < l.length
      · rw [X.set_eq v hq]; exact Nat.le_max_left _ _
      · rw [List.set_eq_of_length_le (by omega)]; exact Nat.le_max_right _ _
    · rw [X.set_ne _ _ e]; exact Nat.le_max_right _ _
  refine ⟨?_, ?_, by show (s.a.set i _).length = 4; rw [List.length_set]; exact so.al, fun j => ?_, fun z => ?_, fun z => ?_⟩
  · show (X.newC s i _).length = 4
    unfold X.newC; split
    · rw [List.length_set]; exact so.cl
    · split
      · rw [List.length_set]; exact so.cl
      · exact so.cl
  · show (X.newH s i _).length = 4
    unfold X.newH; split
    · rw [List.length_set]; exact so.hl
    · exact so.hl
  · show (s.a.set i _).getD j 0 ≤ _
    by_cases e : i = j
    · subst e; rw [X.set_eq _ (by rw [so.al]; exact hi4)]; omega
    · rw [X.set_ne _ _ e]; exact so.at' j
  · show (X.newC s i _).getD z 0 + _ ≤ _
    have h0 := hcs z
    unfold X.newC; split
    · have := gx s.c (act P s i).cell (s.h.getD i 0 + (act P s i).val) z so.cl
      have := hhs i
      omega
    · split
      · have := gx s.c (act P s i).cell (s.c.getD (act P s i).cell 0 + (act P s i).val) z so.cl
        have := hcs (act P s i).cell
        omega
      · omega
  · show (X.newH s i _).getD z 0 + _ ≤ _
    have h0 := hhs z
    unfold X.newH; split
    · have := gx s.h i (s.c.getD (act P s i).cell 0) z so.hl
      have := hcs (act P s i).cell
      omega
    · omega
section
variable {P : Ps} {s : St} {A0 : List Bool} {n : Nat} {way : List Nat} {os : List (List Nat)} {sts : List St} {F M : Nat} {v0 : Value} {w : World} {E b2 j : Nat} {wr : World} {mv : Bool} {A : List Bool} {v : Value} {us : List Value} {osj : List (List Nat)} {stj : List St}
theorem Mid.new (h : Mid P s A0 n way os sts F M v0 w E b2 j wr mv A v us osj stj) {w' : World} (u : Upd [] wr w') : Mid P s A0 n way os sts F M v0 w E b2 j w' mv A v us osj stj :=
  ⟨h.len, h.s1, h.s2, h.sl, h.mv, h.arr.upd u (by simp), h.fat.new u, h.upd.trans u (by simp), h.own, h.box.upd u (by simp)⟩
theorem goL_none {rec : St → List Bool → List (List Nat × St)} {P : Ps} {s : St} : ∀ (ks : List Nat) (A : List Bool), (∀ k ∈ ks, may P s k = false) → X.goL rec P s ks A = []
  | [], _, _ => rfl
  | k :: ks, A, h => by rw [goL_skip (.inl (h k (by simp)))]; exact goL_none ks A (fun q hq => h q (by simp [hq]))
theorem Mid.fin (h : Mid P s A0 n way os sts F M v0 w E b2 j wr mv A v us osj stj) (hj : j = P.length) :
    (mv = true → os ++ (X.go P (n + 1) s A0).map (pre way) = osj ∧ addAll sts ((X.go P (n + 1) s A0).map (·.2)) = stj) ∧ (mv = false → osj = os ∧ stj = sts ∧ X.go P (n + 1) s A0 = [([], s)]) := by
  subst hj
  have e : X.anyMay P s = mv := h.mv.symm
  have hd : (List.range P.length).drop P.length = [] := List.drop_of_length_le (by simp)
  have s1 := h.s1
  have s2 := h.s2
  rw [hd] at s1 s2
  refine ⟨fun hm => ?_, fun hm => ?_⟩
  · have eg : X.go P (n + 1) s A0 = X.goL (X.go P n) P s (List.range P.length) A0 := by show (if _ then _ else _) = _; rw [e, hm]; rfl
    rw [eg, s1, s2]
    exact ⟨by simp [X.goL], rfl⟩
  · have eg : X.go P (n + 1) s A0 = [([], s)] := by show (if _ then _ else _) = _; rw [e, hm]; rfl
    have e0 : X.goL (X.go P n) P s (List.range P.length) A0 = [] := goL_none _ _ (fun k _ => X.not_any (by rw [e, hm]) k)
    rw [e0] at s1 s2
    exact ⟨by simpa [X.goL] using s1.symm, by simpa [X.goL, addAll] using s2.symm, eg⟩
theorem Mid.skip (h : Mid P s A0 n way os sts F M v0 w E b2 j wr mv A v us osj stj) (hj : j < P.length) (hc : may P s j = false ∨ A.getD j false = true) : Mid P s A0 n way os sts F M v0 w E b2 (j + 1) wr (mv || may P s j) A v us osj stj :=
  ⟨by have := h.len; rw [Nat.add_mul]; omega, by rw [h.s1, drop_range hj, goL_skip hc], by rw [h.s2, drop_range hj, goL_skip hc], h.sl, by rw [any_succ, h.mv], h.arr, h.fat, h.upd, h.own, h.box⟩
theorem Mid.go (h : Mid P s A0 n way os sts F M v0 w E b2 j wr mv A v us osj stj) (hj : j < P.length) (hm : may P s j = true) (ha : A.getD j false = false) (ok : Ok P) {wc w' w'' : World} {v' : Value} {us' : List Value}
    (uc : Upd [] wr wc) (hf : FAt w' F M v' us' (osj ++ (X.go P n (stp P s j) (X.nxt P s A j)).map (pre (way ++ [j]))) (addAll stj ((X.go P n (stp P s j) (X.nxt P s A j)).map (·.2)))) (u : Upd (tch F M v) wc w') (ho : ∀ k, v'.ownBlock = some k → v.ownBlock = some k ∨ wc.heap.size ≤ k)
    (hw : w'' = w'.setCell ⟨b2, j, none⟩ (.bool true)) (hb : w.heap.size ≤ b2) (_hv0 : ∀ k, v0.ownBlock = some k → k < w.heap.size) : Mid P s A0 n way os sts F M v0 w E b2 (j + 1) w'' true (A.set j true) v' us' (osj ++ (X.go P n (stp P s j) (X.nxt P s A j)).map (pre (way ++ [j]))) (addAll stj ((X.go P n (stp P s j) (X.nxt P s A j)).map (·.2))) := by
  have hT : ∀ t ∈ tch F M v, t ∈ tch F M v0 ∨ w.heap.size ≤ t := fun t ht => by
    rcases List.mem_cons.1 ht with rfl | ht
    · exact .inl (by simp [tch])
    · rcases List.mem_cons.1 ht with rfl | ht
      · exact .inl (by simp [tch])
      · rcases h.own t (by simpa using ht) with q | q
        · exact .inl (by simp [tch, q])
        · exact .inr q
  have hfc := h.fat.new uc
  have ha' : Arr w' b2 4 P.length (fun k => .bool (A.getD k false)) := (h.arr.upd uc (by simp)).upd u (hfc.offA (h.arr.upd uc (by simp)) (by decide))
  have hbx : Arr w' E 35 12 (stf s) := (h.box.upd uc (by simp)).upd u (hfc.offA (h.box.upd uc (by simp)) (by decide))
  have u1 : Upd (tch F M v0) w w' := (h.upd.trans uc (by simp)).trans u hT
  have u2 : Upd [b2] w' w'' := by rw [hw]; exact (Upd.refl _ _).setCell (.inl (by simp)) _
  have hne : ∀ {C : Nat} {t : TypeId} {k : Nat} {f : Nat → Value}, Arr w' C t k f → t ≠ 4 → C ≠ b2 := fun h1 h2 => h1.ne ha' h2
  refine ⟨?_, ?_, ?_, h.sl.set hm, by rw [any_succ, hm]; simp, ?_, ?_, u1.trans u2 (fun t ht => by simp at ht; subst ht; exact .inr hb), fun k hk => ?_, hbx.upd u2 (by simp; exact hne hbx (by decide))⟩
  · have h1 := h.len
    have h2 := X.len_go P (by omega) n (stp P s j) (X.nxt P s A j)
    have h3 : P.length ^ n ≤ 4 ^ n := Nat.pow_le_pow_left ok.few n
    rw [List.length_append, List.length_map, Nat.add_mul]; omega
  · rw [h.s1, drop_range hj, goL_go hm ha, List.map_append, List.map_map, List.append_assoc]
    congr 2
    refine List.map_congr_left (fun x _ => ?_)
    simp [pre]
  · rw [h.s2, drop_range hj, goL_go hm ha, List.map_append, addAll_app, List.map_map]
    rfl
  · rw [hw]
    refine (ha'.set j _).congr (fun z hz => ?_)
    rw [X.getB_set A j z (by rw [h.sl.1]; exact hj)]
    by_cases e : z = j
    · subst e; simp
    · rw [if_neg e]; simp [Ne.symm e]
  · rw [hw]
    refine ⟨K.blk_far hf.blk ?_ _, own_upd hf.own (by rw [← hw]; exact u2) (fun k hk => ?_), fun i hi => ?_, hf.set.upd (by rw [← hw]; exact u2) ?_, hf.w4⟩
    · intro e
      obtain ⟨cs, hb', -⟩ := ha'
      have := hf.blk
      rw [e] at this
      rw [hb'] at this; cases this
    · obtain ⟨cur, hc⟩ := own_block hf.own k hk
      intro e
      have e : k = b2 := by simpa using e
      subst e
      obtain ⟨cs, hb', -⟩ := ha'
      rw [hc] at hb'; cases hb'
    · obtain ⟨a, cap, e, h1, h2, h3⟩ := hf.row i hi
      refine ⟨a, cap, e, h1, h2, ?_⟩
      rw [← hw]
      refine h3.keep u2 (fun k hk cs f hb' => ?_)
      have e : k = b2 := by simpa using hk
      subst e
      obtain ⟨cs', hb'', -⟩ := ha'
      rw [hb'] at hb''; cases hb''
    · intro e
      have e : M = b2 := by simpa using e
      obtain ⟨cs', hb'', -⟩ := ha'
      exact hf.set.ne_cells hb'' e
  · rcases ho k hk with q | q
    · exact h.own k q
    · have := h.upd.size
      have := uc.size
      exact .inr (by omega)
end
theorem set3 {w : World} {g : Nat} {t : TypeId} {y0 y1 y2 z0 z1 z2 : Value} (h : w.heap[g]? = some (.cells #[z0, z1, z2] t (0, 0))) : (((w.setCell ⟨g, 0, none⟩ y0).setCell ⟨g, 1, none⟩ y1).setCell ⟨g, 2, none⟩ y2).heap[g]? = some (.cells #[y0, y1, y2] t (0, 0)) := by
  replace h := K.blk_set h 0 y0
  simp only [List.setIfInBounds_toArray, List.set_cons_zero] at h
  replace h := K.blk_set h 1 y1
  simp only [List.setIfInBounds_toArray, List.set_cons_zero, List.set_cons_succ] at h
  replace h := K.blk_set h 2 y2
  simp only [List.setIfInBounds_toArray, List.set_cons_zero, List.set_cons_succ] at h
  exact h
theorem upd3 {w0 w : World} {g : Nat} {y0 y1 y2 : Value} (h : Upd [] w0 w) (hg : w0.heap.size ≤ g) : Upd [] w0 (((w.setCell ⟨g, 0, none⟩ y0).setCell ⟨g, 1, none⟩ y1).setCell ⟨g, 2, none⟩ y2) := ((h.setCell (.inr hg) _).setCell (.inr hg) _).setCell (.inr hg) _
/-- What region 9 reads. -/
def Rd (w3 wz : World) (r j g ln cap E aj kd c v : Nat) : Prop := wz.cell? ⟨r, j, none⟩ = some (.slice (some ⟨g, 0, none⟩) ln cap) ∧ wz.cell? ⟨g, aj * 3, none⟩ = some (.int .i64 (kd : Int)) ∧ wz.cell? ⟨g, aj * 3 + 1, none⟩ = some (.int .i64 (c : Int)) ∧ wz.cell? ⟨g, aj * 3 + 2, none⟩ = some (.int .i64 (v : Int)) ∧ wz.cell? ⟨E, 8 + j, none⟩ = some (.int .i64 (aj : Int)) ∧ Hid (Upd [] w3 wz)
/-- What region 15 reads. -/
def Rk (w3 wz : World) (r j g ln cap E aj kd c v Y p q z : Nat) : Prop := wz.cell? ⟨r, j, none⟩ = some (.slice (some ⟨g, 0, none⟩) ln cap) ∧ wz.cell? ⟨g, aj * 3, none⟩ = some (.int .i64 (kd : Int)) ∧ wz.cell? ⟨g, aj * 3 + 1, none⟩ = some (.int .i64 (c : Int)) ∧ wz.cell? ⟨g, aj * 3 + 2, none⟩ = some (.int .i64 (v : Int)) ∧ wz.cell? ⟨E, 8 + j, none⟩ = some (.int .i64 (aj : Int)) ∧
  wz.cell? ⟨Y, 0, none⟩ = some (.int .i64 (p : Int)) ∧ wz.cell? ⟨Y, 1, none⟩ = some (.int .i64 (q : Int)) ∧ wz.cell? ⟨Y, 2, none⟩ = some (.int .i64 (z : Int)) ∧ Hid (Upd [] w3 wz)
/-- What region 18 reads. -/
def Rs (w3 wz : World) (E x0 x1 x2 x3 x4 x5 x6 x7 x8 x9 x10 x11 : Nat) : Prop := wz.cell? ⟨E, 0, none⟩ = some (.int .i64 (x0 : Int)) ∧ wz.cell? ⟨E, 1, none⟩ = some (.int .i64 (x1 : Int)) ∧ wz.cell? ⟨E, 2, none⟩ = some (.int .i64 (x2 : Int)) ∧ wz.cell? ⟨E, 3, none⟩ = some (.int .i64 (x3 : Int)) ∧ wz.cell? ⟨E, 4, none⟩ = some (.int .i64 (x4 : Int)) ∧ wz.cell? ⟨E, 5, none⟩ = some (.int .i64 (x5 : Int)) ∧ wz.cell? ⟨E, 6, none⟩ = some (.int .i64 (x6 : Int)) ∧ wz.cell? ⟨E, 7, none⟩ = some (.int .i64 (x7 : Int)) ∧ wz.cell? ⟨E, 8, none⟩ = some (.int .i64 (x8 : Int)) ∧ wz.cell? ⟨E, 9, none⟩ = some (.int .i64 (x9 : Int)) ∧ wz.cell? ⟨E, 10, none⟩ = some (.int .i64 (x10 : Int)) ∧ wz.cell? ⟨E, 11, none⟩ = some (.int .i64 (x11 : Int)) ∧ Hid (Upd [] w3 wz)
theorem ord_of_own {w : World} {B n : Nat} {v : Value} {l : List Nat} (h : w.ownsRow B 3 1 v n (l.map nv)) (hn : n = l.length) (hl : l ≠ []) : OrdAt w v l := by
  subst hn
  rcases h.2 with ⟨rfl, h0⟩ | ⟨g, cap, cur, rfl, hb, hg, h1, h2, h3, h4⟩
  · exact absurd (List.eq_nil_of_length_eq_zero h0) hl
  · refine ⟨_, cap, rfl, h1, by unfold maxLen at h2; omega, .inr ⟨g, cur, rfl, hg, fun z hz => ?_⟩⟩
    have : (cur.toList.take (l.length * 1))[z]? = some (nv (l.getD z 0)) := by
      rw [h4, List.getElem?_map, List.getD_eq_getElem?_getD, List.getElem?_eq_getElem hz]; rfl
    rw [List.getElem?_take, if_pos (by omega)] at this
    simpa using this
theorem stc_open (a : Pa.St) : ∃ p q r : Nat, Pa.stc a = [.int .i64 (p : Int), .int .i64 (q : Int), .int .i64 (r : Int)] := ⟨_, _, _, rfl⟩
theorem st_get {s : St} {l : List Value} {z : Nat} {v : Value} (h : stl s = l) (hv : l.getD z undef = v) (hz : z < 12) : stf s z = v := by
  rw [← stl_stf s z hz, h, hv]

set_option maxHeartbeats 8000000 in
set_option maxRecDepth 100000 in
theorem goOn_step (n : Nat) (ih : GoOn n) : GoOn (n + 1) := by
  intro a cap P s A ba bc aw cw way F M v us os sts w hP hc1 hc2 hP1 ok so hrem hsl hA hbc hW hw12 hF hol
  obtain ⟨i3, hi3, hz3a, hz3b, hz3c⟩ := info_parts info3
  have HI3 := hid hi3
  have HA3 := hid hz3a
  have HB3 := hid hz3b
  have HC3 := hid hz3c
  clear hi3 hz3a hz3b hz3c
  obtain ⟨i22, hi22, hz22a, hz22b, hz22c⟩ := info_parts info22
  have HI22 := hid hi22
  have HA22 := hid hz22a
  have HB22 := hid hz22b
  have HC22 := hid hz22c
  clear hi22 hz22a hz22b hz22c
  obtain ⟨r, cs0, b0, cap0, hr, -⟩ := hP 0 hP1
  subst hr
  have hbx := (st_blk w s).congr (fun z hz => (stl_stf s z hz).symm)
  obtain ⟨x0, x1, x2, x3, x4, x5, x6, x7, x8, x9, x10, x11, hst⟩ := st_open s
  have MAY := hid fun (wz : World) (k : Nat) (hp : PAt wz (some ⟨r, 0, none⟩) P) (hk : k < P.length) => may_any (some ⟨r, 0, none⟩) cap P s k wz hp hk hc1 hc2 ok so
  have STP := hid fun (wz : World) (k : Nat) (hp : PAt wz (some ⟨r, 0, none⟩) P) (hk : k < P.length) (hm : s.a.getD k 0 < (P.getD k []).length) => step_any (some ⟨r, 0, none⟩) cap P s k wz hp hk hc1 hc2 ok so hm
  have CLB := clone_bools (c := bc) (hA.alloc (.cells (stl s).toArray 35)) ok.few
  have HS := hid hst
  unfold stv at MAY STP
  rw [hst] at MAY STP CLB hbx
  obtain ⟨N, hN⟩ : ∃ N, N = P.length := ⟨_, rfl⟩
  obtain ⟨L, hL⟩ : ∃ L, L = way.length := ⟨_, rfl⟩
  have HP := hid hP
  have HF := hid hF
  have HW := hid hW
  have HA := hid hA
  have HN := hid hN
  have HL := hid hL
  have HSO := hid so
  have HOK := hid ok
  have HSL := hid hsl
  have HBX := hid hbx
  have IH := hid ih
  have HREM := hid hrem
  rw [← hN] at CLB MAY STP hc1 hP1 hbc ⊢
  rw [← hL] at hw12 ⊢
  have HW12 := hid hw12
  clear hP hF hW hA hN hL so ok hsl hbx ih hrem hw12
  unfold stv
  go_enter Try.func22, Try.ntmps22
  rw [hst]
  clear hst
  go_wp2_with fail
  refine CLB.mono ?_
  rintro e w2 ⟨b2, cap2, rfl, hb2, hcap2, harr, hu⟩
  obtain ⟨E, hE⟩ : ∃ E, E = w.heap.size := ⟨_, rfl⟩
  have U2 := hid (((Upd.refl [] w).alloc _).trans hu (by simp))
  have M0 : Hid (Mid P s A n way os sts F M v w E b2 0 w2 false A v us os sts) :=
    ⟨by omega, rfl, rfl, HSL.out, rfl, by rw [← HN.out]; exact harr, HF.out.new U2.out, U2.out.mono (by simp), fun k h => .inl h, by rw [hE]; exact HBX.out.upd hu (by simp)⟩
  have HE := hid hE
  have HB2 := hid (show w.heap.size ≤ b2 from by simp at hb2; omega)
  have HV0 := hid (fun k (hk : v.ownBlock = some k) => own_lt HF.out.own k hk)
  rw [← hE]
  clear hE hu harr CLB HSL HBX
  go_wp2_with fail
  go_loopg [10, 21] N (fun d v10 v21 wr => ∃ (j : Nat) (mv : Bool) (A' : List Bool) (v' : Value) (us' : List Value) (osj : List (List Nat)) (stj : List St), v21 = .int .i64 (j : Int) ∧ v10 = .bool mv ∧ j ≤ N ∧ Hid (j + d = N) ∧ Hid (Mid P s A n way os sts F M v w E b2 j wr mv A' v' us' osj stj))
  case atStart => exact ⟨0, false, A, v, us, os, sts, rfl, rfl, by omega, by show _ = _; omega, M0.out⟩
  case round =>
    clear M0
    obtain ⟨j, mv, A', v', us', osj, stj, rfl, rfl, hjn, Hj, HM⟩ := hrel
    by_cases hj : j < N
    · have hj' : (j : Int) < (N : Int) := by omega
      have HJP := hid (show j < P.length by rw [← HN.out]; exact hj)
      have k0 := HM.out.box.val (z := 0) (by decide) (v := .int .i64 (x0 : Int)) (st_get HS.out rfl (by decide))
      have k1 := HM.out.box.val (z := 1) (by decide) (v := .int .i64 (x1 : Int)) (st_get HS.out rfl (by decide))
      have k2 := HM.out.box.val (z := 2) (by decide) (v := .int .i64 (x2 : Int)) (st_get HS.out rfl (by decide))
      have k3 := HM.out.box.val (z := 3) (by decide) (v := .int .i64 (x3 : Int)) (st_get HS.out rfl (by decide))
      have k4 := HM.out.box.val (z := 4) (by decide) (v := .int .i64 (x4 : Int)) (st_get HS.out rfl (by decide))
      have k5 := HM.out.box.val (z := 5) (by decide) (v := .int .i64 (x5 : Int)) (st_get HS.out rfl (by decide))
      have k6 := HM.out.box.val (z := 6) (by decide) (v := .int .i64 (x6 : Int)) (st_get HS.out rfl (by decide))
      have k7 := HM.out.box.val (z := 7) (by decide) (v := .int .i64 (x7 : Int)) (st_get HS.out rfl (by decide))
      have k8 := HM.out.box.val (z := 8) (by decide) (v := .int .i64 (x8 : Int)) (st_get HS.out rfl (by decide))
      have k9 := HM.out.box.val (z := 9) (by decide) (v := .int .i64 (x9 : Int)) (st_get HS.out rfl (by decide))
      have k10 := HM.out.box.val (z := 10) (by decide) (v := .int .i64 (x10 : Int)) (st_get HS.out rfl (by decide))
      have k11 := HM.out.box.val (z := 11) (by decide) (v := .int .i64 (x11 : Int)) (st_get HS.out rfl (by decide))
      have hm := (MAY.out _ j (HP.out.keep HM.out.upd HF.out.off) hj)
      go_wp2_with fail
      refine hm.mono ?_
      rintro e w3 ⟨rfl, hu⟩
      have U3 := hid hu
      clear hu hm
      clear k0 k1 k2 k3 k4 k5 k6 k7 k8 k9 k10 k11
      cases hmay : may P s j with
      | false =>
        go_wp2_with fail
        go_roundg (N - (j + 1))
        case measure => have := Hj.out; omega
        case rel =>
          have h := (HM.out.new U3.out).skip HJP.out (.inl hmay)
          rw [hmay, Bool.or_false] at h
          exact ⟨j + 1, mv, A', v', us', osj, stj, by go_num, rfl, by omega, by show _ = _; omega, h⟩
      | true =>
        obtain ⟨t, ht⟩ : ∃ t, t = A'.getD j false := ⟨_, rfl⟩
        have ca := (HM.out.arr.upd U3.out (by simp)).val HJP.out (v := .bool t) (by rw [ht])
        have HT := hid ht
        clear ht
        cases t with
        | true =>
          go_wp2_with fail
          go_roundg (N - (j + 1))
          case measure => have := Hj.out; omega
          case rel =>
            have h := (HM.out.new U3.out).skip HJP.out (.inr HT.out.symm)
            rw [hmay, Bool.or_true] at h
            exact ⟨j + 1, true, A', v', us', osj, stj, by go_num, rfl, by omega, by show _ = _; omega, h⟩
        | false =>
          go_upto_region 9 with (fail)
          have hml := X.may_lt hmay
          obtain ⟨r', g, capj, er, hlc, hcells⟩ := act_cells (HP.out.keep HM.out.upd HF.out.off) HJP.out hml.1
          cases er
          obtain ⟨aj, haj⟩ : ∃ x, x = s.a.getD j 0 := ⟨_, rfl⟩
          obtain ⟨ln, hln⟩ : ∃ x, x = (P.getD j []).length := ⟨_, rfl⟩
          obtain ⟨d, hd⟩ : ∃ d, d = act P s j := ⟨_, rfl⟩
          have hdk := HOK.out.get j (s.a.getD j 0)
          rw [show (P.getD j []).getD (s.a.getD j 0) noD = act P s j from rfl, ← hd] at hdk
          have hj4 : j < 4 := Nat.lt_of_lt_of_le HJP.out HOK.out.few
          have AS := hid fun (wz : World) => as_any d j wz (by omega) hdk.2.1 hdk.2.2 hdk.1.1
          obtain ⟨p, q, z, hpq⟩ := stc_open (asS j d)
          rw [hpq] at AS
          rw [← haj, ← hln, ← hd] at hcells
          rw [← haj, ← hln] at hml
          rw [← hln] at hlc
          have HPQ := hid hpq
          have HD := hid hd
          have HAJ := hid haj
          have HLN := hid hln
          have HDK := hid hdk
          obtain ⟨kd, c, vv⟩ := d
          have B3 := HM.out.box.upd U3.out (by simp)
          have KEEP := hid (show ∀ wz, Upd [] w3 wz → Rd w3 wz r j g ln capj E aj kd c vv from fun wz u => by
            obtain ⟨h1, h2, h3, h4⟩ := hcells [] wz (U3.out.trans u (by simp)) (Off.nil _)
            exact ⟨h1, h2, h3, h4, (B3.upd u (by simp)).val (by omega) (by unfold stf; rw [if_neg (by omega), if_neg (by omega), show 8 + j - 8 = j by omega, ← HAJ.out]; rfl), u⟩)
          have hj4i : (j : Int) < 4 := by omega
          have hlti : (aj : Int) < (ln : Int) := by omega
          clear hcells hpq hd haj hln hdk B3 ca
          unfold nv at AS
          go_cut [12] from 33 to 44 (fun v12 wx => ∃ Y, v12 = .pointer (some ⟨Y, 0, none⟩) ∧ wx.heap[Y]? = some (.cells #[.int .i64 (p : Int), .int .i64 (q : Int), .int .i64 (z : Int)] 56 (0, 0)) ∧ Upd [] w3 wx)
          case first =>
            refine J.J_begin (fun wz => Rd w3 wz r j g ln capj E aj kd c vv) 13 (by kernel_rfl) ⟨by kernel_rfl, by kernel_rfl, by kernel_rfl⟩ (KEEP.out _ ((Upd.refl [] w3).drew)) (fun LAST HS => ?_)
            refine J.J_take (i := 0) (v := ?_) LAST (by rfl) (by decide) (by kernel_rfl) (by kernel_rfl) (by intro _ _ _ h; exact h) HS (Or.inl ⟨by rfl, ?_⟩) ?_
            rotate_left
            · intro w hSw; (try simp only [Rd] at hSw); go_simp; try with_reducible rfl
            try simp only [Act.put, List.setIfInBounds_toArray, List.set_cons_zero, List.set_cons_succ]
            refine J.J_take (i := 1) (v := ?_) LAST (by rfl) (by decide) (by kernel_rfl) (by kernel_rfl) (by intro _ _ _ h; exact h) HS (Or.inl ⟨by rfl, ?_⟩) ?_
            rotate_left
            · intro w hSw; (try simp only [Rd] at hSw); go_simp; try with_reducible rfl
            try simp only [Act.put, List.setIfInBounds_toArray, List.set_cons_zero, List.set_cons_succ]
            refine J.J_take (i := 2) (v := ?_) LAST (by rfl) (by decide) (by kernel_rfl) (by kernel_rfl) (by intro _ _ _ h; exact h) HS (Or.inl ⟨by rfl, ?_⟩) ?_
            rotate_left
            · intro w hSw; (try simp only [Rd] at hSw); go_simp; try with_reducible rfl
            try simp only [Act.put, List.setIfInBounds_toArray, List.set_cons_zero, List.set_cons_succ]
            refine J.J_take (i := 3) (v := ?_) LAST (by rfl) (by decide) (by kernel_rfl) (by kernel_rfl) (by intro _ _ _ h; exact h) HS (Or.inl ⟨by rfl, ?_⟩) ?_
            rotate_left
            · intro w hSw; (try simp only [Rd] at hSw); go_simp; try with_reducible rfl
            try simp only [Act.put, List.setIfInBounds_toArray, List.set_cons_zero, List.set_cons_succ]
            refine J.J_take (i := 4) (v := ?_) LAST (by rfl) (by decide) (by kernel_rfl) (by kernel_rfl) (by intro _ _ _ h; exact h) HS (Or.inl ⟨by rfl, ?_⟩) ?_
            rotate_left
            · intro w hSw; (try simp only [Rd] at hSw); go_simp; try with_reducible rfl
            try simp only [Act.put, List.setIfInBounds_toArray, List.set_cons_zero, List.set_cons_succ]
            refine J.J_take (i := 5) (v := ?_) LAST (by rfl) (by decide) (by kernel_rfl) (by kernel_rfl) (by intro _ _ _ h; exact h) HS (Or.inl ⟨by rfl, ?_⟩) ?_
            rotate_left
            · intro w hSw; (try simp only [Rd] at hSw); go_simp; try with_reducible rfl
            try simp only [Act.put, List.setIfInBounds_toArray, List.set_cons_zero, List.set_cons_succ]
            refine J.J_take (i := 6) (v := ?_) LAST (by rfl) (by decide) (by kernel_rfl) (by kernel_rfl) (by intro _ _ _ h; exact h) HS (Or.inl ⟨by rfl, ?_⟩) ?_
            rotate_left
            · intro w hSw; (try simp only [Rd] at hSw); go_simp; try with_reducible rfl
            try simp only [Act.put, List.setIfInBounds_toArray, List.set_cons_zero, List.set_cons_succ]
            refine J.J_take (i := 7) (v := ?_) LAST (by rfl) (by decide) (by kernel_rfl) (by kernel_rfl) (by intro _ _ _ h; exact h) HS (Or.inl ⟨by rfl, ?_⟩) ?_
            rotate_left
            · intro w hSw; (try simp only [Rd] at hSw); go_simp; try with_reducible rfl
            try simp only [Act.put, List.setIfInBounds_toArray, List.set_cons_zero, List.set_cons_succ]
            refine J.J_take (i := 8) (v := ?_) LAST (by rfl) (by decide) (by kernel_rfl) (by kernel_rfl) (by intro _ _ _ h; exact h) HS (Or.inl ⟨by rfl, ?_⟩) ?_
            rotate_left
            · intro w hSw; (try simp only [Rd] at hSw); go_simp; try with_reducible rfl
            try simp only [Act.put, List.setIfInBounds_toArray, List.set_cons_zero, List.set_cons_succ]
            refine J.J_take (i := 9) (v := ?_) LAST (by rfl) (by decide) (by kernel_rfl) (by kernel_rfl) (by intro _ _ _ h; exact h) HS (Or.inl ⟨by rfl, ?_⟩) ?_
            rotate_left
            · intro w hSw; (try simp only [Rd] at hSw); go_simp; try with_reducible rfl
            try simp only [Act.put, List.setIfInBounds_toArray, List.set_cons_zero, List.set_cons_succ]
            refine J.J_take (i := 10) (v := ?_) LAST (by rfl) (by decide) (by kernel_rfl) (by kernel_rfl) (by intro _ _ _ h; exact h) HS (Or.inl ⟨by rfl, ?_⟩) ?_
            rotate_left
            · intro w hSw; (try simp only [Rd] at hSw); go_simp; try with_reducible rfl
            try simp only [Act.put, List.setIfInBounds_toArray, List.set_cons_zero, List.set_cons_succ]
            refine J.J_two (i := 11) (j := 12) (by rfl) (by rfl) (by decide) (by decide) (by kernel_rfl) (fun KK hK => ?_) (fun KK hK => ?_)
            · go_simp
              refine (AS.out _).mono ?_
              rintro e w4 ⟨rfl, hu⟩
              have U4 := hid (((Upd.refl [] w3).drew).trans hu (by simp))
              clear hu
              go_simp
              refine hK.out _ _ (KEEP.out _ U4.out) ?_
              clear hK KK HS
              try simp only [List.setIfInBounds_toArray]
              refine J.J_one (i := 12) (by rfl) (by decide) (by kernel_rfl) (fun KK hK => ?_)
              go_simp
              refine hK.out _ _ (KEEP.out _ (U4.out.alloc _)) ?_
              clear hK KK
              try simp only [List.setIfInBounds_toArray]
              refine J.J_last (by rfl) (by kernel_rfl) (by kernel_rfl) ?_
              go_simp
              go_wp2_with fail
              go_meet
              exact ⟨_, rfl, K.blk_new _ _, U4.out.alloc _⟩
            · go_simp
              refine hK.out _ _ (KEEP.out _ (((Upd.refl [] w3).alloc _).drew)) ?_
              clear hK KK HS
              try simp only [List.setIfInBounds_toArray]
              have hb := K.blk_new w3 (.cells #[.int .i64 0, .int .i64 0, .int .i64 0] 56)
              refine J.J_one (i := 11) (by rfl) (by decide) (by kernel_rfl) (fun KK hK => ?_)
              go_simp
              refine (AS.out _).mono ?_
              rintro e w4 ⟨rfl, hu⟩
              have U4 := hid ((((Upd.refl [] w3).alloc _).drew).trans hu (by simp))
              have hb4 := hu.blk (show ((w3.alloc (.cells #[.int .i64 0, .int .i64 0, .int .i64 0] 56)).drew).heap[w3.heap.size]? = _ from hb) (by simp)
              have y0 := (K.blk_cell hb4 0).trans rfl
              have y1 := (K.blk_cell hb4 1).trans rfl
              have y2 := (K.blk_cell hb4 2).trans rfl
              have g0 := K.blk_frozen hb4 0
              have g1 := K.blk_frozen hb4 1
              have g2 := K.blk_frozen hb4 2
              have HB4 := hid hb4
              clear hu hb hb4
              go_simp
              refine hK.out _ _ (KEEP.out _ U4.out) ?_
              clear hK KK
              try simp only [List.setIfInBounds_toArray]
              refine J.J_last (by rfl) (by kernel_rfl) (by kernel_rfl) ?_
              go_simp
              go_wp2_with fail
              go_meet
              exact ⟨_, rfl, set3 HB4.out, upd3 U4.out (Nat.le_refl _)⟩
          case rest =>
            obtain ⟨Y, rfl, hY, hu9⟩ := hcut
            have U9 := hid (U3.out.trans hu9 (by simp))
            have HY := hid hY
            clear hY hu9 KEEP AS
            have hmk := makeB N (by have := HOK.out.few; have := HN.out; omega)
            obtain ⟨NB, hNB⟩ : ∃ NB, NB = wc.heap.size := ⟨_, rfl⟩
            have A10 : Hid (Arr (wc.alloc (.cells (List.replicate N (.bool false)).toArray 4)) NB 4 N (fun x => .bool (if x < 0 then (X.nxt P s A' j).getD x false else false))) := by
              rw [hNB]
              refine arr_new wc _ 4 N _ (by simp) (fun x hx => ?_)
              rw [List.getElem?_replicate, if_pos hx]; simp
            have HNB := hid hNB
            go_upto_region 11 with (fail)
            rw [← hNB]
            clear hNB hmk
            go_wp2_with fail
            go_loopg [50] N (fun d v50 wq => ∃ (k : Nat), v50 = .int .i64 (k : Int) ∧ k ≤ N ∧ Hid (k + d = N) ∧ Hid (Arr wq NB 4 N (fun x => .bool (if x < k then (X.nxt P s A' j).getD x false else false))) ∧ Hid (Upd [] wc wq))
            case atStart => exact ⟨0, rfl, by omega, by show _ = _; omega, A10.out, (Upd.refl [] wc).alloc _⟩
            case round =>
              clear A10
              obtain ⟨k, rfl, hkn, Hk, HA10, HU10⟩ := hrel
              by_cases hk : k < N
              · have hk' : (k : Int) < (N : Int) := by omega
                have HKP := hid (show k < P.length by rw [← HN.out]; exact hk)
                obtain ⟨t2, ht2⟩ : ∃ t2, t2 = A'.getD k false := ⟨_, rfl⟩
                have ck := (HM.out.arr.upd (U9.out.trans HU10.out (by simp)) (by simp)).val HKP.out (v := .bool t2) (by rw [ht2])
                have HT2 := hid ht2
                clear ht2
                cases t2 with
                | false =>
                  go_wp2_with fail
                  go_roundg (N - (k + 1))
                  case measure => have := Hk.out; omega
                  case rel =>
                    refine ⟨k + 1, by go_num, by omega, by show _ = _; omega, HA10.out.congr (fun x hx => ?_), HU10.out⟩
                    by_cases e : x = k
                    · subst e
                      rw [if_pos (by omega), if_neg (by omega), X.nxt_get P s A' j x HKP.out, ← HT2.out]; rfl
                    · by_cases h : x < k
                      · rw [if_pos (by omega), if_pos h]
                      · rw [if_neg (by omega), if_neg h]
                | true =>
                  go_upto_region 15 with (fail)
                  have hmk' := HM.out.sl.2 k HT2.out.symm
                  have hml2 := X.may_lt hmk'
                  obtain ⟨r', gk, capk, er, hlck, hcells⟩ := act_cells (HP.out.keep HM.out.upd HF.out.off) HKP.out hml2.1
                  cases er
                  obtain ⟨ak, hak⟩ : ∃ x, x = s.a.getD k 0 := ⟨_, rfl⟩
                  obtain ⟨lk, hlk⟩ : ∃ x, x = (P.getD k []).length := ⟨_, rfl⟩
                  obtain ⟨dk, hdk2⟩ : ∃ d, d = act P s k := ⟨_, rfl⟩
                  have hdkk := HOK.out.get k (s.a.getD k 0)
                  rw [show (P.getD k []).getD (s.a.getD k 0) noD = act P s k from rfl, ← hdk2] at hdkk
                  have hk4 : k < 4 := Nat.lt_of_lt_of_le HKP.out HOK.out.few
                  have AS := hid fun (wz : World) => as_any dk k wz (by omega) hdkk.2.1 hdkk.2.2 hdkk.1.1
                  have DP := hid fun (wz : World) => Pa.Depend_any (asS k dk) (asS j ⟨kd, c, vv⟩) wz
                  have hdep : Pa.depS (asS k dk) (asS j ⟨kd, c, vv⟩) = dep k (act P s k) j (act P s j) := by
                    rw [depS_as (by omega) (by omega) ⟨hdkk.2.2, hdkk.1.1⟩ ⟨HDK.out.2.2, HDK.out.1.1⟩, hdk2, HD.out]
                  rw [hdep, HPQ.out] at DP
                  obtain ⟨p2, q2, z2, hpq2⟩ := stc_open (asS k dk)
                  rw [hpq2] at AS DP
                  rw [← hak, ← hlk, ← hdk2] at hcells
                  rw [← hak, ← hlk] at hml2
                  rw [← hlk] at hlck
                  have HAK := hid hak
                  obtain ⟨kk, cck, vk⟩ := dk
                  have B3 := HM.out.box.upd (U9.out.trans HU10.out (by simp)) (by simp)
                  have HYw := HU10.out.blk HY.out (by simp)
                  have KEEP := hid (show ∀ wz, Upd [] wr wz → Rk wr wz r k gk lk capk E ak kk cck vk Y p q z from fun wz u => by
                    obtain ⟨h1, h2, h3, h4⟩ := hcells [] wz ((U9.out.trans HU10.out (by simp)).trans u (by simp)) (Off.nil _)
                    have hy := u.blk HYw (by simp)
                    exact ⟨h1, h2, h3, h4, (B3.upd u (by simp)).val (by omega) (by unfold stf; rw [if_neg (by omega), if_neg (by omega), show 8 + k - 8 = k by omega, ← HAK.out]; rfl), (K.blk_cell hy 0).trans rfl, (K.blk_cell hy 1).trans rfl, (K.blk_cell hy 2).trans rfl, u⟩)
                  have hk4i : (k : Int) < 4 := by omega
                  have hltk : (ak : Int) < (lk : Int) := by omega
                  obtain ⟨dq, hdq⟩ : ∃ dq, dq = dep k (act P s k) j (act P s j) := ⟨_, rfl⟩
                  rw [← hdq] at DP
                  have HDQ := hid hdq
                  clear hcells hpq2 hdk2 hak hlk hdkk B3 hdep HYw hdq ck
                  unfold nv at AS
                  refine J.J_begin (fun wz => Rk wr wz r k gk lk capk E ak kk cck vk Y p q z) 18 (by kernel_rfl) ⟨by kernel_rfl, by kernel_rfl, by kernel_rfl⟩ (KEEP.out _ ((Upd.refl [] wr).drew)) (fun LAST HS => ?_)
                  refine J.J_take (i := 0) (v := ?_) LAST (by rfl) (by decide) (by kernel_rfl) (by kernel_rfl) (by intro _ _ _ h; exact h) HS (Or.inl ⟨by rfl, ?_⟩) ?_
                  rotate_left
                  · intro w hSw; (try simp only [Rk] at hSw); go_simp; try with_reducible rfl
                  try simp only [Act.put, List.setIfInBounds_toArray, List.set_cons_zero, List.set_cons_succ]
                  refine J.J_take (i := 1) (v := ?_) LAST (by rfl) (by decide) (by kernel_rfl) (by kernel_rfl) (by intro _ _ _ h; exact h) HS (Or.inl ⟨by rfl, ?_⟩) ?_
                  rotate_left
                  · intro w hSw; (try simp only [Rk] at hSw); go_simp; try with_reducible rfl
                  try simp only [Act.put, List.setIfInBounds_toArray, List.set_cons_zero, List.set_cons_succ]
                  refine J.J_take (i := 2) (v := ?_) LAST (by rfl) (by decide) (by kernel_rfl) (by kernel_rfl) (by intro _ _ _ h; exact h) HS (Or.inl ⟨by rfl, ?_⟩) ?_
                  rotate_left
                  · intro w hSw; (try simp only [Rk] at hSw); go_simp; try with_reducible rfl
                  try simp only [Act.put, List.setIfInBounds_toArray, List.set_cons_zero, List.set_cons_succ]
                  refine J.J_take (i := 3) (v := ?_) LAST (by rfl) (by decide) (by kernel_rfl) (by kernel_rfl) (by intro _ _ _ h; exact h) HS (Or.inl ⟨by rfl, ?_⟩) ?_
                  rotate_left
                  · intro w hSw; (try simp only [Rk] at hSw); go_simp; try with_reducible rfl
                  try simp only [Act.put, List.setIfInBounds_toArray, List.set_cons_zero, List.set_cons_succ]
                  refine J.J_take (i := 4) (v := ?_) LAST (by rfl) (by decide) (by kernel_rfl) (by kernel_rfl) (by intro _ _ _ h; exact h) HS (Or.inl ⟨by rfl, ?_⟩) ?_
                  rotate_left
                  · intro w hSw; (try simp only [Rk] at hSw); go_simp; try with_reducible rfl
                  try simp only [Act.put, List.setIfInBounds_toArray, List.set_cons_zero, List.set_cons_succ]
                  refine J.J_take (i := 5) (v := ?_) LAST (by rfl) (by decide) (by kernel_rfl) (by kernel_rfl) (by intro _ _ _ h; exact h) HS (Or.inl ⟨by rfl, ?_⟩) ?_
                  rotate_left
                  · intro w hSw; (try simp only [Rk] at hSw); go_simp; try with_reducible rfl
                  try simp only [Act.put, List.setIfInBounds_toArray, List.set_cons_zero, List.set_cons_succ]
                  refine J.J_take (i := 6) (v := ?_) LAST (by rfl) (by decide) (by kernel_rfl) (by kernel_rfl) (by intro _ _ _ h; exact h) HS (Or.inl ⟨by rfl, ?_⟩) ?_
                  rotate_left
                  · intro w hSw; (try simp only [Rk] at hSw); go_simp; try with_reducible rfl
                  try simp only [Act.put, List.setIfInBounds_toArray, List.set_cons_zero, List.set_cons_succ]
                  refine J.J_take (i := 7) (v := ?_) LAST (by rfl) (by decide) (by kernel_rfl) (by kernel_rfl) (by intro _ _ _ h; exact h) HS (Or.inl ⟨by rfl, ?_⟩) ?_
                  rotate_left
                  · intro w hSw; (try simp only [Rk] at hSw); go_simp; try with_reducible rfl
                  try simp only [Act.put, List.setIfInBounds_toArray, List.set_cons_zero, List.set_cons_succ]
                  refine J.J_take (i := 8) (v := ?_) LAST (by rfl) (by decide) (by kernel_rfl) (by kernel_rfl) (by intro _ _ _ h; exact h) HS (Or.inl ⟨by rfl, ?_⟩) ?_
                  rotate_left
                  · intro w hSw; (try simp only [Rk] at hSw); go_simp; try with_reducible rfl
                  try simp only [Act.put, List.setIfInBounds_toArray, List.set_cons_zero, List.set_cons_succ]
                  refine J.J_take (i := 9) (v := ?_) LAST (by rfl) (by decide) (by kernel_rfl) (by kernel_rfl) (by intro _ _ _ h; exact h) HS (Or.inl ⟨by rfl, ?_⟩) ?_
                  rotate_left
                  · intro w hSw; (try simp only [Rk] at hSw); go_simp; try with_reducible rfl
                  try simp only [Act.put, List.setIfInBounds_toArray, List.set_cons_zero, List.set_cons_succ]
                  refine J.J_take (i := 10) (v := ?_) LAST (by rfl) (by decide) (by kernel_rfl) (by kernel_rfl) (by intro _ _ _ h; exact h) HS (Or.inl ⟨by rfl, ?_⟩) ?_
                  rotate_left
                  · intro w hSw; (try simp only [Rk] at hSw); go_simp; try with_reducible rfl
                  try simp only [Act.put, List.setIfInBounds_toArray, List.set_cons_zero, List.set_cons_succ]
                  refine J.J_take (i := 12) (v := ?_) LAST (by rfl) (by decide) (by kernel_rfl) (by kernel_rfl) (by intro _ _ _ h; exact h) HS (Or.inl ⟨by rfl, ?_⟩) ?_
                  rotate_left
                  · intro w hSw; (try simp only [Rk] at hSw); go_simp; try with_reducible rfl
                  try simp only [Act.put, List.setIfInBounds_toArray, List.set_cons_zero, List.set_cons_succ]
                  refine J.J_one (i := 11) (by rfl) (by decide) (by kernel_rfl) (fun KK hK => ?_)
                  go_simp
                  refine (AS.out _).mono ?_
                  rintro e w4 ⟨rfl, hu⟩
                  have U4 := hid (((Upd.refl [] wr).drew).trans hu (by simp))
                  clear hu
                  go_simp
                  refine hK.out _ _ (KEEP.out _ U4.out) ?_
                  clear hK KK HS
                  try simp only [List.setIfInBounds_toArray]
                  refine J.J_one (i := 13) (by rfl) (by decide) (by kernel_rfl) (fun KK hK => ?_)
                  go_simp
                  refine (DP.out _).mono ?_
                  rintro e w5 ⟨rfl, hu⟩
                  have U5 := hid (U4.out.trans hu (by simp))
                  clear hu
                  go_simp
                  have HS := KEEP.out _ U5.out
                  refine hK.out _ _ HS ?_
                  clear hK KK
                  try simp only [List.setIfInBounds_toArray]
                  refine J.J_take (i := 14) (v := ?_) LAST (by rfl) (by decide) (by kernel_rfl) (by kernel_rfl) (by intro _ _ _ h; exact h) HS (Or.inl ⟨by rfl, ?_⟩) ?_
                  rotate_left
                  · intro w hSw; (try simp only [Rk] at hSw); go_simp; try with_reducible rfl
                  try simp only [Act.put, List.setIfInBounds_toArray, List.set_cons_zero, List.set_cons_succ]
                  refine J.J_take (i := 15) (v := ?_) LAST (by rfl) (by decide) (by kernel_rfl) (by kernel_rfl) (by intro _ _ _ h; exact h) HS (Or.inl ⟨by rfl, ?_⟩) ?_
                  rotate_left
                  · intro w hSw; (try simp only [Rk] at hSw); go_simp; try with_reducible rfl
                  try simp only [Act.put, List.setIfInBounds_toArray, List.set_cons_zero, List.set_cons_succ]
                  refine J.J_take (i := 16) (v := ?_) LAST (by rfl) (by decide) (by kernel_rfl) (by kernel_rfl) (by intro _ _ _ h; exact h) HS (Or.inl ⟨by rfl, ?_⟩) ?_
                  rotate_left
                  · intro w hSw; (try simp only [Rk] at hSw); go_simp; try with_reducible rfl
                  try simp only [Act.put, List.setIfInBounds_toArray, List.set_cons_zero, List.set_cons_succ]
                  refine J.J_take (i := 17) (v := ?_) LAST (by rfl) (by decide) (by kernel_rfl) (by kernel_rfl) (by intro _ _ _ h; exact h) HS (Or.inl ⟨by rfl, ?_⟩) ?_
                  rotate_left
                  · intro w hSw; (try simp only [Rk] at hSw); go_simp; try with_reducible rfl
                  try simp only [Act.put, List.setIfInBounds_toArray, List.set_cons_zero, List.set_cons_succ]
                  refine J.J_last (by rfl) (by kernel_rfl) (by kernel_rfl) ?_
                  go_simp
                  have f16 := (HA10.out.upd U5.out (by simp)).fro k
                  have c16 := (HA10.out.upd U5.out (by simp)).val hk (v := .bool false) (by rw [if_neg (by omega)])
                  go_wp2_with fail
                  go_roundg (N - (k + 1))
                  case measure => have := Hk.out; omega
                  case rel =>
                    refine ⟨k + 1, by go_num, by omega, by show _ = _; omega, ((HA10.out.upd U5.out (by simp)).set k _).congr (fun x hx => ?_), (HU10.out.trans U5.out (by simp)).setCell (.inr (by show wc.heap.size ≤ NB; rw [HNB.out]; exact Nat.le_refl _)) _⟩
                    by_cases e : x = k
                    · subst e
                      rw [if_pos (by omega), if_pos rfl, X.nxt_get P s A' j x HKP.out, ← HT2.out, ← HDQ.out]; rfl
                    · rw [if_neg e]
                      by_cases h : x < k
                      · rw [if_pos (by omega), if_pos h]
                      · rw [if_neg (by omega), if_neg h]
              · obtain rfl : N = k := by omega
                go_upto_region 18 with (fail)
                obtain ⟨sv, hsv⟩ : ∃ sv, sv = Value.agg (stl (stp P s j)).toArray := ⟨_, rfl⟩
                obtain ⟨G, hG⟩ : ∃ G, G = X.go P n (stp P s j) (X.nxt P s A' j) := ⟨_, rfl⟩
                have UW := hid (U9.out.trans HU10.out (by simp))
                have MW := hid (HM.out.new UW.out)
                have STJ := hid fun (wz : World) (u : Upd [] wr wz) => STP.out wz j ((HP.out.keep MW.out.upd HF.out.off).new u) hj (by rw [← HAJ.out, ← HLN.out]; exact hml.1)
                have hrem' := X.rem_stp (SOk.wf HOK.out HSO.out) hmay
                have hG4 : osj.length + 4 ^ n ≤ 1000000000 := by
                  have h1 := MW.out.len
                  have h2 : j + 1 ≤ 4 := by have := HOK.out.few; have := HJP.out; omega
                  have h3 : (j + 1) * 4 ^ n ≤ 4 * 4 ^ n := Nat.mul_le_mul_right _ h2
                  have h4 : 4 ^ (n + 1) = 4 * 4 ^ n := by rw [Nat.pow_succ, Nat.mul_comm]
                  rw [Nat.add_mul] at h3
                  omega
                have CALL := hid fun (wz : World) (u : Upd [] wr wz) (aw' : Option Addr) (cw' : Nat) (ho : OrdAt wz (.slice aw' (way ++ [j]).length cw') (way ++ [j])) =>
                  IH.out (some ⟨r, 0, none⟩) cap P (stp P s j) (X.nxt P s A' j) NB N aw' cw' (way ++ [j]) F M v' us' osj stj wz ((HP.out.keep MW.out.upd HF.out.off).new u) (by rw [← HN.out]; exact hc1) hc2 (by rw [← HN.out]; exact hP1) HOK.out (SOk.stp HOK.out HSO.out hmay) (by have := HREM.out; omega) (MW.out.sl.next j) (by rw [← HN.out]; exact (HA10.out.congr (fun x hx => by rw [if_pos hx])).upd u (by simp)) (by rw [← HN.out]; exact Nat.le_refl _) ho (by rw [List.length_append, ← HL.out]; have := HW12.out; simp; omega) (MW.out.fat.new u) hG4
                have hl1 : (way ++ [j]).length = L + 1 := by rw [List.length_append, ← HL.out]; rfl
                unfold stv at CALL
                rw [← hG, ← hsv, ← HN.out, hl1] at CALL
                rw [← hsv] at STJ
                have HG := hid hG
                have HSV := hid hsv
                have HL1 := hid hl1
                have KEEP := hid (show ∀ wz, Upd [] wr wz → Rs wr wz E x0 x1 x2 x3 x4 x5 x6 x7 x8 x9 x10 x11 from fun wz u => by
                  have B := MW.out.box.upd u (by simp)
                  exact ⟨B.val (z := 0) (by decide) (st_get HS.out rfl (by decide)), B.val (z := 1) (by decide) (st_get HS.out rfl (by decide)), B.val (z := 2) (by decide) (st_get HS.out rfl (by decide)), B.val (z := 3) (by decide) (st_get HS.out rfl (by decide)), B.val (z := 4) (by decide) (st_get HS.out rfl (by decide)), B.val (z := 5) (by decide) (st_get HS.out rfl (by decide)), B.val (z := 6) (by decide) (st_get HS.out rfl (by decide)), B.val (z := 7) (by decide) (st_get HS.out rfl (by decide)), B.val (z := 8) (by decide) (st_get HS.out rfl (by decide)), B.val (z := 9) (by decide) (st_get HS.out rfl (by decide)), B.val (z := 10) (by decide) (st_get HS.out rfl (by decide)), B.val (z := 11) (by decide) (st_get HS.out rfl (by decide)), u⟩)
                have hLc : L ≤ cw := by obtain ⟨a1, c1, e, h1, h2, -⟩ := HW.out; cases e; rw [HL.out]; exact h1
                have hcw : cw ≤ 9223372036854775807 := by obtain ⟨a1, c1, e, h1, h2, -⟩ := HW.out; cases e; exact h2
                have hw0 : aw = none → L = 0 ∧ L = 0 := fun e => by
                  obtain ⟨a1, c1, e1, h1, h2, h3⟩ := HW.out
                  cases e1
                  rcases h3 with ⟨-, h⟩ | ⟨g', cs', h, -⟩
                  · rw [HL.out, h]; exact ⟨rfl, rfl⟩
                  · rw [e] at h; cases h
                have HW0 := hid hw0
                have HWC := hid fun (wz : World) (u : Upd [] wr wz) (b : Addr) (hb : aw = some b) (q : Nat) (uu : Value) (hq : (way.map nv)[q]? = some uu) => (show wz.cell? (b.add q) = some uu by
                  obtain ⟨a1, c1, e1, h1, h2, h3⟩ := HW.out
                  cases e1
                  rcases h3 with ⟨h, -⟩ | ⟨g', cs', h, hb', hc'⟩
                  · rw [hb] at h; cases h
                  · rw [hb] at h
                    cases h
                    have hb'' := u.blk (MW.out.upd.blk hb' (fun hm => HF.out.off3 _ hm _ _ hb')) (by simp)
                    rw [List.getElem?_map] at hq
                    by_cases hql : q < way.length
                    · rw [List.getElem?_eq_getElem hql] at hq
                      rw [add0, K.blk_cell hb'', hc' q hql, List.getD_eq_getElem?_getD, List.getElem?_eq_getElem hql]
                      simpa using hq
                    · rw [List.getElem?_eq_none (Nat.le_of_not_lt hql)] at hq; cases hq)
                clear hG hsv hl1 hrem' hG4 hw0
                go_cut [] from 80 to 96 (fun wx => ∃ (v1 : Value) (us1 : List Value) (wp : World), FAt wx F M v1 us1 (osj ++ G.map (pre (way ++ [j]))) (addAll stj (G.map (·.2))) ∧ Upd [] wr wp ∧ Upd (tch F M v') wp wx ∧ (∀ k, v1.ownBlock = some k → v'.ownBlock = some k ∨ wp.heap.size ≤ k))
                case first =>
                  refine J.J_begin (fun wz => Rs wr wz E x0 x1 x2 x3 x4 x5 x6 x7 x8 x9 x10 x11) 16 (by kernel_rfl) ⟨by kernel_rfl, by kernel_rfl, by kernel_rfl⟩ (KEEP.out _ ((Upd.refl [] wr).drew)) (fun LAST HS => ?_)
                  refine J.J_take (i := 0) (v := ?_) LAST (by rfl) (by decide) (by kernel_rfl) (by kernel_rfl) (by intro _ _ _ h; exact h) HS (Or.inl ⟨by rfl, ?_⟩) ?_
                  rotate_left
                  · intro w hSw; (try simp only [Rs] at hSw); go_simp; try with_reducible rfl
                  try simp only [Act.put, List.setIfInBounds_toArray, List.set_cons_zero, List.set_cons_succ]
                  refine J.J_take (i := 1) (v := ?_) LAST (by rfl) (by decide) (by kernel_rfl) (by kernel_rfl) (by intro _ _ _ h; exact h) HS (Or.inl ⟨by rfl, ?_⟩) ?_
                  rotate_left
                  · intro w hSw; (try simp only [Rs] at hSw); go_simp; try with_reducible rfl
                  try simp only [Act.put, List.setIfInBounds_toArray, List.set_cons_zero, List.set_cons_succ]
                  refine J.J_take (i := 2) (v := ?_) LAST (by rfl) (by decide) (by kernel_rfl) (by kernel_rfl) (by intro _ _ _ h; exact h) HS (Or.inl ⟨by rfl, ?_⟩) ?_
                  rotate_left
                  · intro w hSw; (try simp only [Rs] at hSw); go_simp; try with_reducible rfl
                  try simp only [Act.put, List.setIfInBounds_toArray, List.set_cons_zero, List.set_cons_succ]
                  refine J.J_take (i := 3) (v := ?_) LAST (by rfl) (by decide) (by kernel_rfl) (by kernel_rfl) (by intro _ _ _ h; exact h) HS (Or.inl ⟨by rfl, ?_⟩) ?_
                  rotate_left
                  · intro w hSw; (try simp only [Rs] at hSw); go_simp; try with_reducible rfl
                  try simp only [Act.put, List.setIfInBounds_toArray, List.set_cons_zero, List.set_cons_succ]
                  refine J.J_take (i := 5) (v := ?_) LAST (by rfl) (by decide) (by kernel_rfl) (by kernel_rfl) (by intro _ _ _ h; exact h) HS (Or.inl ⟨by rfl, ?_⟩) ?_
                  rotate_left
                  · intro w hSw; (try simp only [Rs] at hSw); go_simp; try with_reducible rfl
                  try simp only [Act.put, List.setIfInBounds_toArray, List.set_cons_zero, List.set_cons_succ]
                  refine J.J_take (i := 6) (v := ?_) LAST (by rfl) (by decide) (by kernel_rfl) (by kernel_rfl) (by intro _ _ _ h; exact h) HS (Or.inl ⟨by rfl, ?_⟩) ?_
                  rotate_left
                  · intro w hSw; (try simp only [Rs] at hSw); go_simp; try with_reducible rfl
                  try simp only [Act.put, List.setIfInBounds_toArray, List.set_cons_zero, List.set_cons_succ]
                  refine J.J_take (i := 7) (v := ?_) LAST (by rfl) (by decide) (by kernel_rfl) (by kernel_rfl) (by intro _ _ _ h; exact h) HS (Or.inl ⟨by rfl, ?_⟩) ?_
                  rotate_left
                  · intro w hSw; (try simp only [Rs] at hSw); go_simp; try with_reducible rfl
                  try simp only [Act.put, List.setIfInBounds_toArray, List.set_cons_zero, List.set_cons_succ]
                  refine J.J_take (i := 8) (v := ?_) LAST (by rfl) (by decide) (by kernel_rfl) (by kernel_rfl) (by intro _ _ _ h; exact h) HS (Or.inl ⟨by rfl, ?_⟩) ?_
                  rotate_left
                  · intro w hSw; (try simp only [Rs] at hSw); go_simp; try with_reducible rfl
                  try simp only [Act.put, List.setIfInBounds_toArray, List.set_cons_zero, List.set_cons_succ]
                  refine J.J_take (i := 9) (v := ?_) LAST (by rfl) (by decide) (by kernel_rfl) (by kernel_rfl) (by intro _ _ _ h; exact h) HS (Or.inl ⟨by rfl, ?_⟩) ?_
                  rotate_left
                  · intro w hSw; (try simp only [Rs] at hSw); go_simp; try with_reducible rfl
                  try simp only [Act.put, List.setIfInBounds_toArray, List.set_cons_zero, List.set_cons_succ]
                  refine J.J_take (i := 10) (v := ?_) LAST (by rfl) (by decide) (by kernel_rfl) (by kernel_rfl) (by intro _ _ _ h; exact h) HS (Or.inl ⟨by rfl, ?_⟩) ?_
                  rotate_left
                  · intro w hSw; (try simp only [Rs] at hSw); go_simp; try with_reducible rfl
                  try simp only [Act.put, List.setIfInBounds_toArray, List.set_cons_zero, List.set_cons_succ]
                  refine J.J_take (i := 11) (v := ?_) LAST (by rfl) (by decide) (by kernel_rfl) (by kernel_rfl) (by intro _ _ _ h; exact h) HS (Or.inl ⟨by rfl, ?_⟩) ?_
                  rotate_left
                  · intro w hSw; (try simp only [Rs] at hSw); go_simp; try with_reducible rfl
                  try simp only [Act.put, List.setIfInBounds_toArray, List.set_cons_zero, List.set_cons_succ]
                  refine J.J_take (i := 12) (v := ?_) LAST (by rfl) (by decide) (by kernel_rfl) (by kernel_rfl) (by intro _ _ _ h; exact h) HS (Or.inl ⟨by rfl, ?_⟩) ?_
                  rotate_left
                  · intro w hSw; (try simp only [Rs] at hSw); go_simp; try with_reducible rfl
                  try simp only [Act.put, List.setIfInBounds_toArray, List.set_cons_zero, List.set_cons_succ]
                  refine J.J_take (i := 15) (v := ?_) LAST (by rfl) (by decide) (by kernel_rfl) (by kernel_rfl) (by intro _ _ _ h; exact h) HS (Or.inl ⟨by rfl, ?_⟩) ?_
                  rotate_left
                  · intro w hSw; (try simp only [Rs] at hSw); go_simp; try with_reducible rfl
                  try simp only [Act.put, List.setIfInBounds_toArray, List.set_cons_zero, List.set_cons_succ]
                  refine J.J_two (i := 4) (j := 13) (by rfl) (by rfl) (by decide) (by decide) (by kernel_rfl) (fun KK hK => ?_) (fun KK hK => ?_)
                  · go_simp
                    refine (STJ.out _ ((Upd.refl [] wr).drew)).mono ?_
                    rintro e w4 ⟨rfl, hu⟩
                    have U4 := hid (((Upd.refl [] wr).drew).trans hu (by simp))
                    clear hu
                    go_simp
                    refine hK.out _ _ (KEEP.out _ U4.out) ?_
                    clear hK KK HS
                    try simp only [List.setIfInBounds_toArray]
                    refine J.J_one (i := 13) (by rfl) (by decide) (by kernel_rfl) (fun KK hK => ?_)
                    go_simp
                    refine hK.out _ _ (KEEP.out _ (U4.out.alloc _)) ?_
                    clear hK KK
                    try simp only [List.setIfInBounds_toArray]
                    refine J.J_one (i := 14) (by rfl) (by decide) (by kernel_rfl) (fun KK hK => ?_)
                    refine step_append_grows rfl (.tmp 91) (.tmp 93) 22 rfl 3 i3 _ 1 8 Try.underlying22 HI3.out HA3.out HB3.out HC3.out rfl (by decide) aw L L (way.map nv) (by rfl) HW0.out (by rw [List.length_map, ← HL.out, Nat.mul_one]) (fun b hb q uu hq => HWC.out _ (U4.out.alloc _) b hb q uu hq) ⟨w4.heap.size, 0, none⟩ 1 1 [.int .i64 (j : Int)] (by rfl) rfl (fun q uu hq => by rw [add0]; refine (K.blk_cell (K.blk_new w4 _) q).trans ?_; simpa using hq) (by intro uu hu; simp at hu; subst hu; rfl) (by omega) (by unfold maxLen; have := HW12.out; omega) (by have := HW12.out; omega) ?_
                    intro v9 w9 ho hg
                    have U9' := hid ((U4.out.alloc _).trans ((Upd.refl [] _).grown hg (fun k hk => by cases hk)) (by simp))
                    have hord := ord_of_own (l := way ++ [j]) (by rw [List.map_append]; exact ho) HL1.out.symm (by simp)
                    obtain ⟨aw', cw', e9, h91, h92, h93⟩ := hord
                    rw [HL1.out] at e9
                    have HORD := hid (show OrdAt w9 (.slice aw' (L + 1) cw') (way ++ [j]) from ⟨aw', cw', by rw [HL1.out], h91, h92, h93⟩)
                    subst e9
                    clear ho hg h91 h92 h93
                    refine hK.out _ _ (KEEP.out _ U9'.out) ?_
                    clear hK KK
                    try simp only [Act.put, List.setIfInBounds_toArray, List.set_cons_zero, List.set_cons_succ]
                    refine J.J_last (by rfl) (by kernel_rfl) (by kernel_rfl) ?_
                    go_simp
                    refine (CALL.out _ U9'.out aw' cw' HORD.out).mono ?_
                    rintro e wx ⟨rfl, v1, us1, hf, hu, hown⟩
                    have R := hid (show ∃ (v1 : Value) (us1 : List Value) (wp : World), FAt wx F M v1 us1 (osj ++ G.map (pre (way ++ [j]))) (addAll stj (G.map (·.2))) ∧ Upd [] wr wp ∧ Upd (tch F M v') wp wx ∧ (∀ k, v1.ownBlock = some k → v'.ownBlock = some k ∨ wp.heap.size ≤ k) from ⟨v1, us1, w9, hf, U9'.out, hu, hown⟩)
                    clear hf hu hown
                    go_simp
                    go_wp2_with fail
                    go_meet
                    exact R.out
                  · go_simp
                    refine hK.out _ _ (KEEP.out _ (((Upd.refl [] wr).alloc _).drew)) ?_
                    clear hK KK HS
                    try simp only [List.setIfInBounds_toArray]
                    refine J.J_one (i := 4) (by rfl) (by decide) (by kernel_rfl) (fun KK hK => ?_)
                    go_simp
                    refine (STJ.out _ (((Upd.refl [] wr).alloc _).drew)).mono ?_
                    rintro e w4 ⟨rfl, hu⟩
                    have U4 := hid ((((Upd.refl [] wr).alloc (.cells #[.int .i64 (j : Int)] 3)).drew).trans hu (by simp))
                    have HB4 := hid (hu.blk (show ((wr.alloc (.cells #[.int .i64 (j : Int)] 3)).drew).heap[wr.heap.size]? = _ from K.blk_new wr _) (by simp))
                    clear hu
                    go_simp
                    refine hK.out _ _ (KEEP.out _ U4.out) ?_
                    clear hK KK
                    try simp only [List.setIfInBounds_toArray]
                    refine J.J_one (i := 14) (by rfl) (by decide) (by kernel_rfl) (fun KK hK => ?_)
                    refine step_append_grows rfl (.tmp 91) (.tmp 93) 22 rfl 3 i3 _ 1 8 Try.underlying22 HI3.out HA3.out HB3.out HC3.out rfl (by decide) aw L L (way.map nv) (by rfl) HW0.out (by rw [List.length_map, ← HL.out, Nat.mul_one]) (fun b hb q uu hq => HWC.out _ (U4.out) b hb q uu hq) ⟨wr.heap.size, 0, none⟩ 1 1 [.int .i64 (j : Int)] (by rfl) rfl (fun q uu hq => by rw [add0]; refine (K.blk_cell HB4.out q).trans ?_; simpa using hq) (by intro uu hu; simp at hu; subst hu; rfl) (by omega) (by unfold maxLen; have := HW12.out; omega) (by have := HW12.out; omega) ?_
                    intro v9 w9 ho hg
                    have U9' := hid ((U4.out).trans ((Upd.refl [] _).grown hg (fun k hk => by cases hk)) (by simp))
                    have hord := ord_of_own (l := way ++ [j]) (by rw [List.map_append]; exact ho) HL1.out.symm (by simp)
                    obtain ⟨aw', cw', e9, h91, h92, h93⟩ := hord
                    rw [HL1.out] at e9
                    have HORD := hid (show OrdAt w9 (.slice aw' (L + 1) cw') (way ++ [j]) from ⟨aw', cw', by rw [HL1.out], h91, h92, h93⟩)
                    subst e9
                    clear ho hg h91 h92 h93
                    refine hK.out _ _ (KEEP.out _ U9'.out) ?_
                    clear hK KK
                    try simp only [Act.put, List.setIfInBounds_toArray, List.set_cons_zero, List.set_cons_succ]
                    refine J.J_last (by rfl) (by kernel_rfl) (by kernel_rfl) ?_
                    go_simp
                    refine (CALL.out _ U9'.out aw' cw' HORD.out).mono ?_
                    rintro e wx ⟨rfl, v1, us1, hf, hu, hown⟩
                    have R := hid (show ∃ (v1 : Value) (us1 : List Value) (wp : World), FAt wx F M v1 us1 (osj ++ G.map (pre (way ++ [j]))) (addAll stj (G.map (·.2))) ∧ Upd [] wr wp ∧ Upd (tch F M v') wp wx ∧ (∀ k, v1.ownBlock = some k → v'.ownBlock = some k ∨ wp.heap.size ≤ k) from ⟨v1, us1, w9, hf, U9'.out, hu, hown⟩)
                    clear hf hu hown
                    go_simp
                    go_wp2_with fail
                    go_meet
                    exact R.out
                case rest =>
                  obtain ⟨v1, us1, wp, hf, hup, hux, hown⟩ := hcut
                  have hax := (MW.out.arr.upd hup (by simp)).upd hux ((MW.out.fat.new hup).offA (MW.out.arr.upd hup (by simp)) (by decide))
                  have f19 := hax.fro j
                  have c19 := hax.val HJP.out (v := .bool false) (by rw [← HT.out])
                  have HF1 := hid hf
                  have HUP := hid hup
                  have HUX := hid hux
                  have HOWN := hid hown
                  clear hf hup hux hown hax KEEP CALL STJ HWC
                  go_wp2_with fail
                  go_roundg (N - (j + 1))
                  case measure => have := Hj.out; omega
                  case rel =>
                    have h := MW.out.go HJP.out hmay HT.out.symm HOK.out HUP.out (by rw [← HG.out]; exact HF1.out) HUX.out HOWN.out rfl HB2.out HV0.out
                    rw [← HG.out] at h
                    exact ⟨j + 1, true, A'.set j true, v1, us1, osj ++ G.map (pre (way ++ [j])), addAll stj (G.map (fun x : List Nat × St => x.2)), by go_num, rfl, by omega, by show _ = _; omega, h⟩
    · obtain rfl : j = N := by omega
      have hfin := HM.out.fin HN.out
      have HFIN := hid hfin
      clear hfin
      cases mv with
      | true =>
        go_wp2_with fail
        first | refine bodyPost_ret (results_none rfl _ _ _) rfl ?_ | refine bodyPost_end (results_none rfl _ _ _) rfl ?_
        have h := HFIN.out.1 (by first | rfl | trivial)
        exact ⟨rfl, v', us', by rw [h.1, h.2]; exact HM.out.fat, HM.out.upd, HM.out.own⟩
      | false =>
        go_upto_region 22 with (fail)
        have k0 := HM.out.box.val (z := 0) (by decide) (v := .int .i64 (x0 : Int)) (st_get HS.out rfl (by decide))
        have k1 := HM.out.box.val (z := 1) (by decide) (v := .int .i64 (x1 : Int)) (st_get HS.out rfl (by decide))
        have k2 := HM.out.box.val (z := 2) (by decide) (v := .int .i64 (x2 : Int)) (st_get HS.out rfl (by decide))
        have k3 := HM.out.box.val (z := 3) (by decide) (v := .int .i64 (x3 : Int)) (st_get HS.out rfl (by decide))
        have k4 := HM.out.box.val (z := 4) (by decide) (v := .int .i64 (x4 : Int)) (st_get HS.out rfl (by decide))
        have k5 := HM.out.box.val (z := 5) (by decide) (v := .int .i64 (x5 : Int)) (st_get HS.out rfl (by decide))
        have k6 := HM.out.box.val (z := 6) (by decide) (v := .int .i64 (x6 : Int)) (st_get HS.out rfl (by decide))
        have k7 := HM.out.box.val (z := 7) (by decide) (v := .int .i64 (x7 : Int)) (st_get HS.out rfl (by decide))
        have k8 := HM.out.box.val (z := 8) (by decide) (v := .int .i64 (x8 : Int)) (st_get HS.out rfl (by decide))
        have k9 := HM.out.box.val (z := 9) (by decide) (v := .int .i64 (x9 : Int)) (st_get HS.out rfl (by decide))
        have k10 := HM.out.box.val (z := 10) (by decide) (v := .int .i64 (x10 : Int)) (st_get HS.out rfl (by decide))
        have k11 := HM.out.box.val (z := 11) (by decide) (v := .int .i64 (x11 : Int)) (st_get HS.out rfl (by decide))
        have cF := (K.blk_cell HM.out.fat.blk 0).trans rfl
        refine region_tail 5 (by kernel_rfl) (by kernel_rfl) ?_
        simp only [List.take_succ_cons, List.take_zero, List.drop_succ_cons, List.drop_zero]
        repeat still_step
        refine wpStill_nil ?_
        go_upto_region 23 with (at_mapUpdate; refine MS.wpList_putS rfl _ _ _ rfl key12 Try.underlying60 rfl (HM.out.fat.set.new ((Upd.refl [] wr).drew)) (k := stv s) ⟨s, rfl⟩ (by unfold stv; rw [HS.out]; rfl) rfl ?_; intro w6 S6 h6 hu6 hor; have H6 := hid h6; have HU6 := hid (((Upd.refl [M] wr).drew).trans hu6 (by simp)); have HOR := hid hor; clear h6 hu6 hor)
        have hf6 := HM.out.fat.put H6.out HU6.out HOR.out ⟨HSO.out.cl, HSO.out.hl, HSO.out.al⟩
        have HF6 := hid hf6
        have f23 := fun (wz : World) (u : Upd [] w6 wz) => (K.blk_cell (u.blk hf6.blk (by simp)) 1).trans rfl
        have KEEP := hid (show ∀ wz, Upd [] w6 wz → wz.cell? ⟨F, 1, none⟩ = some v' from fun wz u => f23 wz u)
        have IW := hid fun (wz : World) (u : Upd [] w6 wz) => (show IntsAt wz aw way by
          obtain ⟨a1, c1, e1, h1, h2, h3⟩ := HW.out
          cases e1
          exact ((h3.keep HM.out.upd (fun k hk cs f hb => HF.out.off3 k hk cs f hb)).keep HU6.out (fun k hk cs f hb => by
            have e : k = M := by simpa using hk
            subst e; exact HM.out.fat.set.ne_cells hb rfl)).new u)
        clear k0 k1 k2 k3 k4 k5 k6 k7 k8 k9 k10 k11 cF hf6 f23
        refine J.J_begin (fun wz => wz.cell? ⟨F, 1, none⟩ = some v') 11 (by kernel_rfl) ⟨by kernel_rfl, by kernel_rfl, by kernel_rfl⟩ (KEEP.out _ ((Upd.refl [] w6).drew)) (fun LAST HS => ?_)
        refine J.J_take (i := 0) (v := ?_) LAST (by rfl) (by decide) (by kernel_rfl) (by kernel_rfl) (by intro _ _ _ h; exact h) HS (Or.inl ⟨by rfl, ?_⟩) ?_
        rotate_left
        · intro w hSw; (try simp only [Rs] at hSw); go_simp; try with_reducible rfl
        try simp only [Act.put, List.setIfInBounds_toArray, List.set_cons_zero, List.set_cons_succ]
        refine J.J_take (i := 1) (v := ?_) LAST (by rfl) (by decide) (by kernel_rfl) (by kernel_rfl) (by intro _ _ _ h; exact h) HS (Or.inl ⟨by rfl, ?_⟩) ?_
        rotate_left
        · intro w hSw; (try simp only [Rs] at hSw); go_simp; try with_reducible rfl
        try simp only [Act.put, List.setIfInBounds_toArray, List.set_cons_zero, List.set_cons_succ]
        refine J.J_take (i := 2) (v := ?_) LAST (by rfl) (by decide) (by kernel_rfl) (by kernel_rfl) (by intro _ _ _ h; exact h) HS (Or.inl ⟨by rfl, ?_⟩) ?_
        rotate_left
        · intro w hSw; (try simp only [Rs] at hSw); go_simp; try with_reducible rfl
        try simp only [Act.put, List.setIfInBounds_toArray, List.set_cons_zero, List.set_cons_succ]
        refine J.J_take (i := 3) (v := ?_) LAST (by rfl) (by decide) (by kernel_rfl) (by kernel_rfl) (by intro _ _ _ h; exact h) HS (Or.inl ⟨by rfl, ?_⟩) ?_
        rotate_left
        · intro w hSw; (try simp only [Rs] at hSw); go_simp; try with_reducible rfl
        try simp only [Act.put, List.setIfInBounds_toArray, List.set_cons_zero, List.set_cons_succ]
        refine J.J_take (i := 4) (v := ?_) LAST (by rfl) (by decide) (by kernel_rfl) (by kernel_rfl) (by intro _ _ _ h; exact h) HS (Or.inl ⟨by rfl, ?_⟩) ?_
        rotate_left
        · intro w hSw; (try simp only [Rs] at hSw); go_simp; try with_reducible rfl
        try simp only [Act.put, List.setIfInBounds_toArray, List.set_cons_zero, List.set_cons_succ]
        refine J.J_take (i := 5) (v := ?_) LAST (by rfl) (by decide) (by kernel_rfl) (by kernel_rfl) (by intro _ _ _ h; exact h) HS (Or.inl ⟨by rfl, ?_⟩) ?_
        rotate_left
        · intro w hSw; (try simp only [Rs] at hSw); go_simp; try with_reducible rfl
        try simp only [Act.put, List.setIfInBounds_toArray, List.set_cons_zero, List.set_cons_succ]
        refine J.J_one (i := 6) (by rfl) (by decide) (by kernel_rfl) (fun KK hK => ?_)
        go_simp
        have HOL := hid (show osj.length ≤ 1000000000 by have h := HFIN.out.2 (by first | rfl | trivial); rw [h.1]; exact Nat.le_trans (Nat.le_add_right _ _) hol)
        have CL := clone_ints (c := cw) (IW.out _ ((Upd.refl [] w6).drew)) (by rw [← HL.out]; have := HW12.out; omega)
        rw [← HL.out] at CL
        refine CL.mono ?_
        rintro e w7 ⟨u, rfl, hord, hu⟩
        have U7 := hid (((Upd.refl [] w6).drew).trans hu (by simp))
        obtain ⟨au, cu, eu, o1, o2, o3⟩ := hord
        rw [← HL.out] at eu
        have HORD := hid (show OrdAt w7 (.slice au L cu) way from ⟨au, cu, by rw [HL.out], o1, o2, o3⟩)
        subst eu
        clear hu o1 o2 o3 CL
        go_simp
        refine hK.out _ _ (KEEP.out _ U7.out) ?_
        clear hK KK HS
        try simp only [List.setIfInBounds_toArray]
        refine J.J_one (i := 7) (by rfl) (by decide) (by kernel_rfl) (fun KK hK => ?_)
        go_simp
        refine hK.out _ _ (KEEP.out _ (U7.out.alloc _)) ?_
        clear hK KK
        try simp only [List.setIfInBounds_toArray]
        refine J.J_one (i := 8) (by rfl) (by decide) (by kernel_rfl) (fun KK hK => ?_)
        refine J.step_app rfl (.tmp 112) (.tmp 115) 25 rfl 0 22 i22 _ 1 24 Try.underlying25 HI22.out HA22.out HB22.out HC22.out rfl (by decide) v' osj.length us' (by rfl) (own_new (own_new HF6.out.own U7.out) ((Upd.refl [] _).alloc _)) ⟨w7.heap.size, 0, none⟩ 1 1 [.slice au L cu] (by rfl) rfl (fun q uu hq => by rw [add0]; refine (K.blk_cell (K.blk_new w7 _) q).trans ?_; simpa using hq) (by intro uu hu; simp at hu; subst hu; rfl) (by unfold maxLen; have := HOL.out; omega) (by have := HOL.out; omega) (Nat.zero_le _) ?_
        intro v9 w9 ho hu9 hv9
        obtain ⟨a9, q9, e9, -, -, -⟩ := own_view ho
        subst e9
        have U9 := hid (((Upd.refl v'.ownBlock.toList w7).alloc (.cells #[.slice au L cu] 22)).trans hu9 (fun t ht => .inl ht))
        have HO9 := hid ho
        have HV9 := hid hv9
        have b9 := U9.out.blk ((HF6.out.new U7.out).blk) (fun hk => own_cells_ne (HF6.out.new U7.out).own (HF6.out.new U7.out).blk (by decide) _ (by simpa using hk) rfl)
        have c9 := (K.blk_cell b9 1).trans rfl
        have z9 := K.blk_frozen b9 1
        have HB9 := hid b9
        clear ho hu9 hv9 b9
        have HS := c9
        refine hK.out _ _ c9 ?_
        clear hK KK
        try simp only [Act.put, List.setIfInBounds_toArray, List.set_cons_zero, List.set_cons_succ]
        refine J.J_take (i := 9) (v := ?_) LAST (by rfl) (by decide) (by kernel_rfl) (by kernel_rfl) (by intro _ _ _ h; exact h) HS (Or.inl ⟨by rfl, ?_⟩) ?_
        rotate_left
        · intro w hSw; (try simp only [Rs] at hSw); go_simp; try with_reducible rfl
        try simp only [Act.put, List.setIfInBounds_toArray, List.set_cons_zero, List.set_cons_succ]
        refine J.J_take (i := 10) (v := ?_) LAST (by rfl) (by decide) (by kernel_rfl) (by kernel_rfl) (by intro _ _ _ h; exact h) HS (Or.inl ⟨by rfl, ?_⟩) ?_
        rotate_left
        · intro w hSw; (try simp only [Rs] at hSw); go_simp; try with_reducible rfl
        try simp only [Act.put, List.setIfInBounds_toArray, List.set_cons_zero, List.set_cons_succ]
        refine J.J_last (by rfl) (by kernel_rfl) (by kernel_rfl) ?_
        go_simp
        go_wp2_with fail
        first | refine bodyPost_ret (results_none rfl _ _ _) rfl ?_ | refine bodyPost_end (results_none rfl _ _ _) rfl ?_
        have h := HFIN.out.2 (by first | rfl | trivial)
        have hp := HF6.out.push U7.out HORD.out HO9.out U9.out
        refine ⟨rfl, .slice a9 (osj.length + 1) q9, us' ++ [.slice au L cu], ?_, ?_, ?_⟩
        · rw [h.2.2]
          have e1 : os ++ List.map (pre way) [([], s)] = osj ++ [way] := by rw [h.1]; simp [pre]
          have e2 : addAll sts (List.map (fun x : List Nat × St => x.2) [([], s)]) = addAll stj [s] := by rw [h.2.1]; rfl
          rw [e1, e2]; exact hp
        · have hT : ∀ t ∈ v'.ownBlock.toList, t ∈ tch F M v ∨ w.heap.size ≤ t := fun t ht => by
            rcases HM.out.own t (by simpa using ht) with q | q
            · exact .inl (by simp [tch, q])
            · exact .inr q
          have u6 := HM.out.upd.trans HU6.out (fun t ht => .inl (by rw [show t = M by simpa using ht]; simp [tch]))
          exact ((u6.trans U7.out (by simp)).trans U9.out hT).setCell (.inl (by simp [tch])) _
        · intro k hk
          have s1 := HM.out.upd.size
          have s2 := HU6.out.size
          have s3 := U7.out.size
          rcases HV9.out k hk with q | q
          · exact HM.out.own k q
          · right
            rw [World.size_alloc] at q
            omega
theorem goOn_any : ∀ n, GoOn n
  | 0 => by
    intro a cap P s A ba bc aw cw way F M v us os sts w _ _ _ _ _ _ hrem
    omega
  | n + 1 => goOn_step n (goOn_any n)
end Go.Proofs.Ytklacfdbpmkiiaa.Y
