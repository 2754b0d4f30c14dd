/- Strings and lists of bytes. -/
import Derived.Test.YtfhnchabifklnaaDoorBase
namespace Go.Proofs.YtfhnchabifklnaaDoor
open Go.RowKit Go.Proofs.YtfhnchabifklnaaDoorW.PrintWords
theorem bytes_strOf {l : List Int} (h : Bytes l) : bytesOf (strOfNums l) = l := by
  unfold bytesOf
  rw [strOfNums_data, List.map_map]
  conv => rhs; rw [← List.map_id l]
  refine List.map_congr_left fun x hx => ?_
  obtain ⟨h0, h1⟩ := h x hx
  simp only [Function.comp, id]
  rw [UInt8.toNat_ofNat_of_lt' (by show x.toNat < 256; omega)]
  omega
theorem strOf_bytes (s : ByteArray) : strOfNums (bytesOf s) = s := by
  apply Go.WideShapes.bytes_inj
  rw [strOfNums_data]
  unfold bytesOf
  rw [List.map_map]
  conv => rhs; rw [← List.map_id s.data.toList]
  refine List.map_congr_left fun b _ => ?_
  simp
theorem Bytes_bytesOf (s : ByteArray) : Bytes (bytesOf s) := by
  intro x hx
  unfold bytesOf at hx
  obtain ⟨b, _, rfl⟩ := List.mem_map.1 hx
  have := b.toNat_lt
  omega
theorem strOf_inj {l m : List Int} (hl : Bytes l) (hm : Bytes m) (h : strOfNums l = strOfNums m) : l = m := by
  rw [← bytes_strOf hl, ← bytes_strOf hm, h]
theorem bytesOf_inj {s t : ByteArray} (h : bytesOf s = bytesOf t) : s = t := by
  rw [← strOf_bytes s, ← strOf_bytes t, h]
theorem toList_inj {s t : ByteArray} (h : s.toList = t.toList) : s = t := by
  rw [ByteArray.toList_eq, ByteArray.toList_eq] at h
  exact Go.WideShapes.bytes_inj h
theorem strOf_eql {l m : List Int} (hl : Bytes l) (hm : Bytes m) : ((strOfNums l).toList == (strOfNums m).toList) = decide (l = m) := by
  rw [Bool.eq_iff_iff]
  simp only [beq_iff_eq, decide_eq_true_eq]
  exact ⟨fun h => strOf_inj hl hm (toList_inj h), fun h => by rw [h]⟩
theorem Bytes.nil : Bytes [] := fun _ h => by cases h
theorem Bytes.app {l m : List Int} (hl : Bytes l) (hm : Bytes m) : Bytes (l ++ m) := fun x hx => by
  rcases List.mem_append.1 hx with h | h
  · exact hl x h
  · exact hm x h
theorem Bytes.con {x : Int} {m : List Int} (h0 : 0 ≤ x) (h1 : x < 256) (hm : Bytes m) : Bytes (x :: m) := fun y hy => by
  rcases List.mem_cons.1 hy with rfl | h
  · exact ⟨h0, h1⟩
  · exact hm y h
theorem Bytes.tk {l : List Int} (hl : Bytes l) (n : Nat) : Bytes (l.take n) := fun x hx => hl x (List.mem_of_mem_take hx)
theorem Bytes.dp {l : List Int} (hl : Bytes l) (n : Nat) : Bytes (l.drop n) := fun x hx => hl x (List.mem_of_mem_drop hx)
end Go.Proofs.YtfhnchabifklnaaDoor
