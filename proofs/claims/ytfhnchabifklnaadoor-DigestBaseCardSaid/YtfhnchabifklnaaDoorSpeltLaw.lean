/- Base64 and wire's letters: the same but for two letters and the filling. -/
import Derived.Test.YtfhnchabifklnaaDoorSpellD
namespace Go.Proofs.YtfhnchabifklnaaDoor
open Go.RowKit Go.Proofs.YtfhnchabifklnaaDoorW.PrintWords
def tr (t : Int) : Int := if t = 45 then 43 else if t = 95 then 47 else t
theorem tr_fin : ∀ n : Fin 64, b64L (n.val : Int) = tr (alpha (n.val : Int)) ∧ 0 ≤ alpha (n.val : Int) ∧ alpha (n.val : Int) < 256 ∧ 0 ≤ b64L (n.val : Int) ∧ b64L (n.val : Int) < 256 := by decide +kernel
theorem tr_all (n : Int) (h0 : 0 ≤ n) (h1 : n < 64) : b64L n = tr (alpha n) ∧ 0 ≤ alpha n ∧ alpha n < 256 ∧ 0 ≤ b64L n ∧ b64L n < 256 := by
  have h := tr_fin ⟨n.toNat, by omega⟩
  simp only [Int.toNat_of_nonneg h0] at h
  exact h
theorem b64_sp3 : ∀ (l : List Int), Bytes l → b64 l = (sp3 l).map tr ++ List.replicate ((3 - l.length % 3) % 3) 61
  | [], _ => rfl
  | [a], hb => by
    have ha := hb a (by simp)
    have h1 := (tr_all (a / 4) (by omega) (by omega)).1
    have h2 := (tr_all (a % 4 * 16) (by omega) (by omega)).1
    have e1 : a * 65536 / 262144 % 64 = a / 4 := by omega
    have e2 : a * 65536 / 4096 % 64 = a % 4 * 16 := by omega
    simp [b64, grp, x3, rd, quad, sp3, List.range, List.range.loop, e1, e2, h1, h2]
  | [a, b], hb => by
    have ha := hb a (by simp)
    have hb' := hb b (by simp)
    have h1 := (tr_all (a / 4) (by omega) (by omega)).1
    have h2 := (tr_all (a % 4 * 16 + b / 16) (by omega) (by omega)).1
    have h3 := (tr_all (b % 16 * 4) (by omega) (by omega)).1
    have e1 : (a * 65536 + b * 256) / 262144 % 64 = a / 4 := by omega
    have e2 : (a * 65536 + b * 256) / 4096 % 64 = a % 4 * 16 + b / 16 := by omega
    have e3 : (a * 65536 + b * 256) / 64 % 64 = b % 16 * 4 := by omega
    simp [b64, grp, x3, rd, quad, sp3, List.range, List.range.loop, e1, e2, e3, h1, h2, h3]
  | a :: b :: c :: t, hb => by
    have ha := hb a (by simp)
    have hb' := hb b (by simp)
    have hc := hb c (by simp)
    have h1 := (tr_all (a / 4) (by omega) (by omega)).1
    have h2 := (tr_all (a % 4 * 16 + b / 16) (by omega) (by omega)).1
    have h3 := (tr_all (b % 16 * 4 + c / 64) (by omega) (by omega)).1
    have h4 := (tr_all (c % 64) (by omega) (by omega)).1
    have e1 : (a * 65536 + b * 256 + c) / 262144 % 64 = a / 4 := by omega
    have e2 : (a * 65536 + b * 256 + c) / 4096 % 64 = a % 4 * 16 + b / 16 := by omega
    have e3 : (a * 65536 + b * 256 + c) / 64 % 64 = b % 16 * 4 + c / 64 := by omega
    have e4 : (a * 65536 + b * 256 + c) % 64 = c % 64 := by omega
    have ih := b64_sp3 t (fun x hx => hb x (by simp [hx]))
    have el : (3 - (a :: b :: c :: t).length % 3) % 3 = (3 - t.length % 3) % 3 := by simp only [List.length_cons]; omega
    rw [el, b64, ih]
    simp [grp, x3, rd, quad, sp3, List.range, List.range.loop, e1, e2, e3, e4, h1, h2, h3, h4]
theorem sp3_Bytes : ∀ (l : List Int), Bytes l → Bytes (sp3 l)
  | [], _ => Bytes.nil
  | [a], hb => by
    have ha := hb a (by simp)
    have h1 := (tr_all (a / 4) (by omega) (by omega)).2
    have h2 := (tr_all (a % 4 * 16) (by omega) (by omega)).2
    exact Bytes.con h1.1 h1.2.1 (Bytes.con h2.1 h2.2.1 Bytes.nil)
  | [a, b], hb => by
    have ha := hb a (by simp)
    have hb' := hb b (by simp)
    have h1 := (tr_all (a / 4) (by omega) (by omega)).2
    have h2 := (tr_all (a % 4 * 16 + b / 16) (by omega) (by omega)).2
    have h3 := (tr_all (b % 16 * 4) (by omega) (by omega)).2
    exact Bytes.con h1.1 h1.2.1 (Bytes.con h2.1 h2.2.1 (Bytes.con h3.1 h3.2.1 Bytes.nil))
  | a :: b :: c :: t, hb => by
    have ha := hb a (by simp)
    have hb' := hb b (by simp)
    have hc := hb c (by simp)
    have h1 := (tr_all (a / 4) (by omega) (by omega)).2
    have h2 := (tr_all (a % 4 * 16 + b / 16) (by omega) (by omega)).2
    have h3 := (tr_all (b % 16 * 4 + c / 64) (by omega) (by omega)).2
    have h4 := (tr_all (c % 64) (by omega) (by omega)).2
    exact Bytes.con h1.1 h1.2.1 (Bytes.con h2.1 h2.2.1 (Bytes.con h3.1 h3.2.1 (Bytes.con h4.1 h4.2.1 (sp3_Bytes t (fun x hx => hb x (by simp [hx]))))))
theorem tr_byte (x : Int) (h0 : 0 ≤ x) (h1 : x < 256) : 0 ≤ tr x ∧ tr x < 256 := by
  unfold tr
  split
  · omega
  split
  · omega
  · omega
theorem b64_Bytes (l : List Int) (hb : Bytes l) : Bytes (b64 l) := by
  rw [b64_sp3 l hb]
  intro x hx
  rcases List.mem_append.1 hx with hx | hx
  · obtain ⟨y, hy, rfl⟩ := List.mem_map.1 hx
    have := sp3_Bytes l hb y hy
    exact tr_byte y this.1 this.2
  · rw [List.mem_replicate] at hx
    omega
theorem b64_length (l : List Int) (hb : Bytes l) : (b64 l).length % 4 = 0 ∧ (sp3 l).length ≤ (b64 l).length ∧ (b64 l).length ≤ (sp3 l).length + 2 := by
  rw [b64_sp3 l hb, List.length_append, List.length_map, List.length_replicate, sp3_length]
  generalize l.length = n
  obtain ⟨q, r, hr, rfl⟩ : ∃ q r, r < 3 ∧ n = 3 * q + r := ⟨n / 3, n % 3, by omega, by omega⟩
  have e : (3 * q + r) % 3 = r := by omega
  rw [e]
  rcases (by omega : r = 0 ∨ r = 1 ∨ r = 2) with rfl | rfl | rfl
  · have e2 : (4 * (3 * q + 0) + 2) / 3 = 4 * q := by omega
    rw [e2]
    omega
  · have e2 : (4 * (3 * q + 1) + 2) / 3 = 4 * q + 2 := by omega
    rw [e2]
    omega
  · have e2 : (4 * (3 * q + 2) + 2) / 3 = 4 * q + 3 := by omega
    rw [e2]
    omega
theorem b64_at (l : List Int) (hb : Bytes l) (i : Nat) (hi : i < (b64 l).length) : rd (b64 l) (i : Int) = if i < (sp3 l).length then tr (rd (sp3 l) (i : Int)) else 61 := by
  have e := b64_sp3 l hb
  have hl := congrArg List.length e
  rw [List.length_append, List.length_map] at hl
  rw [e]
  unfold rd
  simp only [Int.toNat_natCast, List.getD_eq_getElem?_getD]
  split
  · rename_i h
    rw [List.getElem?_append_left (by rw [List.length_map]; exact h), List.getElem?_map, List.getElem?_eq_getElem h]
    rfl
  · rename_i h
    rw [List.getElem?_append_right (by rw [List.length_map]; omega), List.getElem?_replicate, if_pos (by rw [List.length_replicate] at hl; rw [List.length_map]; omega)]
    rfl
theorem str_get (l : List Int) (hb : Bytes l) (i : Nat) (hi : i < l.length) : ∃ c : UInt8, (strOfNums l)[i]? = some c ∧ ((c.toNat : Nat) : Int) = rd l (i : Int) := by
  have h := hb _ (List.getElem_mem hi)
  have hsz : i < (strOfNums l).size := by
    have : (strOfNums l).size = l.length := by simp [strOfNums, ByteArray.size]
    omega
  refine ⟨(strOfNums l)[i], by simp [hsz], ?_⟩
  rw [rd_get l i hi]
  have e : (strOfNums l)[i] = UInt8.ofNat (l[i]).toNat := by simp [strOfNums, ByteArray.getElem_eq_getElem_data]
  rw [e]
  have : (l[i]).toNat < 256 := by omega
  simp [Nat.mod_eq_of_lt this]
  omega
theorem str_at (l : List Int) (hb : Bytes l) (i : Nat) (hi : i < l.length) (h : i < (strOfNums l).size) : (((strOfNums l)[i]'h).toNat : Int) = rd l (i : Int) := by
  obtain ⟨c, h1, h2⟩ := str_get l hb i hi
  have : (strOfNums l)[i]? = some ((strOfNums l)[i]'h) := by simp [h]
  rw [this] at h1
  rw [← h2, Option.some.inj h1]
end Go.Proofs.YtfhnchabifklnaaDoor
