/- Two digests compared; what a key's noughts and a key's digest change: nothing. -/
import Derived.Test.YtfhnchabifklnaaDoorMac
import Derived.Stop.BytesEq
namespace Go.Proofs.YtfhnchabifklnaaDoor
open Go.RowKit Go.Proofs.YtfhnchabifklnaaDoorW.PrintWords
open Go.Extern.Stop (cell)
theorem nums_cells (l : List Int) (hb : Bytes l) : nums .u8 l = (l.map fun x => UInt8.ofNat x.toNat).map cell := by
  induction l with
  | nil => rfl
  | cons a l ih =>
    have ha := hb a (by simp)
    have h1 : cell (UInt8.ofNat a.toNat) = .int .u8 a := by
      unfold cell
      congr 1
      have : a.toNat < 256 := by omega
      simp [Nat.mod_eq_of_lt this]
      omega
    simp only [List.map_cons, h1]
    rw [← ih (fun x hx => hb x (by simp [hx]))]
    rfl
theorem hash_same (l : List Int) (hb : Bytes l) (hl : l.length = 32) (w : World) : (Op.equalIn 10000 31 (.agg (nums .u8 l).toArray) (.agg (nums .u8 l).toArray)).run Tryd.prog w = .ok true w := by
  rw [nums_cells l hb]
  have := run_equalIn_bytes (P := Tryd.prog) w 9998 31 5 32 Tryd.underlying31 Tryd.underlying5 (fun _ => by kernel_rfl) (l.map fun x => UInt8.ofNat x.toNat) (l.map fun x => UInt8.ofNat x.toNat) (by simp [hl]) (by simp [hl])
  rw [this]
  simp
theorem mac_length (k b : List Int) : (mac k b).length = 32 := rfl
theorem mac_Bytes (k b : List Int) : Bytes (mac k b) := sha2_Bytes _
theorem mac_same (k b : List Int) (w : World) : (Op.equalIn 10000 31 (.agg (nums .u8 (mac k b)).toArray) (.agg (nums .u8 (mac k b)).toArray)).run Tryd.prog w = .ok true w := hash_same _ (mac_Bytes k b) (mac_length k b) w
theorem mac_long (k b : List Int) (h : 64 < k.length) : mac (sha2 k) b = mac k b := by
  have e : macKey (sha2 k) = macKey k := by
    unfold macKey
    rw [if_pos h, if_neg (by rw [sha2_length]; decide)]
  unfold mac
  rw [e]
theorem mac_noughts (k b : List Int) (n : Nat) (h : k.length + n ≤ 64) : mac (k ++ List.replicate n 0) b = mac k b := by
  have e : macKey (k ++ List.replicate n 0) = macKey k := by
    unfold macKey
    rw [if_neg (by simp; omega), if_neg (by omega)]
    unfold pad64
    rw [List.append_assoc, List.replicate_append_replicate, List.length_append, List.length_replicate]
    congr 2
    omega
  unfold mac
  rw [e]
end Go.Proofs.YtfhnchabifklnaaDoor
