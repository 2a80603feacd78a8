/- clock.Less at two clocks inside a region that draws its order: one contract for every call. -/
import Derived.Test.YtcdladnbcamgjaaCL
namespace Go.Proofs.Ytcdladnbcamgjaa.Lh
open Go Go.RowKit Go.Proofs.Ytcdladnbcamgjaa.K Go.Proofs.Ytcdladnbcamgjaa.CL

theorem less_h {wr : World} {m g1 c1 g2 c2 : Nat} {xs ys : List Int} {b : Bool} (h1 : Hid (IntRow wr (some ⟨g1, 0, none⟩) xs)) (l1 : Hid (xs.length = 8)) (h2 : Hid (IntRow wr (some ⟨g2, 0, none⟩) ys)) (l2 : Hid (ys.length = 8)) (hb : Hid (lessL xs ys = b)) :
    Calls Try.prog 26 #[.slice (some ⟨g1, 0, none⟩) 8 c1, .slice (some ⟨g2, 0, none⟩) 8 c2] (wr.drewN m) fun e w' => e = .returned (.bool b) ∧ w' = wr.drewN m :=
  (less_any _ 8 c1 xs _ 8 c2 ys _ (h1.out.upd ((Upd.refl [] wr).drewN m)) l1.out (h2.out.upd ((Upd.refl [] wr).drewN m)) l2.out (by decide) (by decide)).mono fun _ _ ⟨he, hw⟩ => ⟨he.trans (by rw [hb.out]), hw⟩

end Go.Proofs.Ytcdladnbcamgjaa.Lh
