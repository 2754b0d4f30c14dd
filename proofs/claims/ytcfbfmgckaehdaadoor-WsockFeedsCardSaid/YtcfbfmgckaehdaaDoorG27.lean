/- The texts WsNextAll in one. -/
import Derived.Test.YtcfbfmgckaehdaaDoorG26
namespace Go.Proofs.YtcfbfmgckaehdaaDoor
open Go.RowKit Go.Proofs.YtcfbfmgckaehdaaDoorW.PrintWords
theorem WsNextR_all (M : Nat) (hM : M ≤ 1000000000) (w0 : World) (gr : Nat) : ∀ (m : Nat) (w : World) (H : Nat → Prop) (c : Cn) (F : List Frm), c.wait.length < m → RefAt w0 w H gr c F → RelF M c F → CnOk c → Below w0.heap.size w0 w → (∀ k, w.heap.size ≤ k → ¬ H k) →
    Calls Tryd.prog 34 #[.pointer (some ⟨gr, 0, none⟩)] w (RefStep M w0 w H gr (nextW c))
  | 0, _, _, _, _, h, _, _, _, _, _ => absurd h (Nat.not_lt_zero _)
  | m + 1, w, H, c, F, hm, h, hF, hok, hB, hH => WsNextR_step M hM w0 w H gr c F h hF hok hB hH (fun w' H' c' F' hl h' hF' hok' hB' hH' => WsNextR_all M hM w0 gr m w' H' c' F' (by omega) h' hF' hok' hB' hH')
theorem WsNextR_calls (M : Nat) (hM : M ≤ 1000000000) (w0 w : World) (H : Nat → Prop) (gr : Nat) (c : Cn) (F : List Frm) (h : RefAt w0 w H gr c F) (hF : RelF M c F) (hok : CnOk c) (hB : Below w0.heap.size w0 w) (hH : ∀ k, w.heap.size ≤ k → ¬ H k) :
    Calls Tryd.prog 34 #[.pointer (some ⟨gr, 0, none⟩)] w (RefStep M w0 w H gr (nextW c)) :=
  WsNextR_all M hM w0 gr (c.wait.length + 1) w H c F (Nat.lt_succ_self _) h hF hok hB hH
end Go.Proofs.YtcfbfmgckaehdaaDoor
