/- bytes.Compare and bytes.HasPrefix. -/
import Derived.Test.YthbdgakeglppbaaApp
import Derived.Test.YthbdgakeglppbaaEqual
import Derived.Lib.Bytealg
import Derived.Shelf.Small.Strs
namespace Go.Proofs.Ythbdgakeglppbaa
open Go.RowKit Go.Proofs.YthbdgakeglppbaaW.PrintWords
/-- Which of two lists of bytes is the lesser one. -/
def cmpBytes : List Int → List Int → Int
  | [], [] => 0
  | [], _ :: _ => -1
  | _ :: _, [] => 1
  | a :: s, b :: t => if a < b then -1 else if b < a then 1 else cmpBytes s t
theorem u8_lt (a b : Int) (ha : 0 ≤ a ∧ a < 256) (hb : 0 ≤ b ∧ b < 256) : (UInt8.ofNat a.toNat < UInt8.ofNat b.toNat) ↔ a < b := by
  rw [UInt8.lt_iff_toNat_lt, UInt8.toNat_ofNat_of_lt' (by show a.toNat < 256; omega), UInt8.toNat_ofNat_of_lt' (by show b.toNat < 256; omega)]
  omega
theorem cmpBytes_eq : ∀ (l m : List Int), Bytes l → Bytes m → Lib.compareBytes (strOfNums l).data.toList (strOfNums m).data.toList = cmpBytes l m
  | [], [], _, _ => rfl
  | [], _ :: _, _, _ => rfl
  | _ :: _, [], _, _ => rfl
  | a :: s, b :: t, hl, hm => by
    have h1 := cmpBytes_eq s t (fun x h => hl x (List.mem_cons_of_mem _ h)) (fun x h => hm x (List.mem_cons_of_mem _ h))
    rw [strOfNums_data, strOfNums_data] at h1 ⊢
    simp only [List.map_cons, Lib.compareBytes, cmpBytes]
    rw [h1]
    have ha := hl a (List.mem_cons_self ..)
    have hb := hm b (List.mem_cons_self ..)
    simp only [u8_lt a b ha hb, u8_lt b a hb ha]
theorem run_loadBytes {P : Program} (w : World) : ∀ (l : List Int) (a : Addr) (acc : ByteArray), (∀ j, j < l.length → w.cell? (a.add j) = some (.int .u8 (l.getD j 0))) →
    (Extern.Bytes.loadBytes a l.length acc).run P w = .ok (acc ++ strOfNums l) w
  | [], a, acc, _ => by
    have : acc ++ strOfNums [] = acc := by
      apply Go.WideShapes.bytes_inj
      simp [strOfNums_data]
    rw [this]
    rfl
  | x :: l, a, acc, h => by
    have h0 := h 0 (by simp)
    have ih := run_loadBytes (P := P) w l (a.add 1) (acc.push x.toNat.toUInt8) (fun j hj => by
      rw [add_add]
      have := h (1 + j) (by simp; omega)
      rw [this, Nat.add_comm 1 j]
      rfl)
    have e : acc.push x.toNat.toUInt8 ++ strOfNums l = acc ++ strOfNums (x :: l) := by
      apply Go.WideShapes.bytes_inj
      simp [strOfNums_data]
    rw [Addr.add_zero'] at h0
    rw [← e, ← ih]
    have hx : w.cell? a = some (.int .u8 x) := h0
    simp only [List.length_cons, Extern.Bytes.loadBytes]
    show Sem.run P (load a >>= _) w = _
    simp [load, Sem.run_bind, Sem.run, hx, Result.andThen]
theorem run_bytesOf {P : Program} {w : World} {A : Option Addr} {n c : Nat} {l : List Int} (h : Rd w A n l) : (Extern.Bytes.bytesOf (.slice A n c)).run P w = .ok (strOfNums l) w := by
  have hr := Kd.reads_of_C (enc := Value.int .u8) (d := (0 : Int)) (h1 := fun _ => rfl) h
  obtain ⟨hl, hm, hc⟩ := hr
  cases A with
  | none =>
    have : l = [] := by
      rcases Nat.eq_zero_or_pos n with h0 | h0
      · exact List.eq_nil_of_length_eq_zero (by omega)
      · obtain ⟨ad, e, _⟩ := hc h0
        cases e
    subst this
    rfl
  | some a =>
    have := run_loadBytes (P := P) w l a .empty (fun j hj => by
      obtain ⟨ad, e, hcell⟩ := hc (by omega)
      cases e
      exact hcell j (by omega))
    show Sem.run P (Extern.Bytes.loadBytes a n .empty) w = _
    rw [← hl, this]
    congr 1
set_option maxHeartbeats 800000 in
theorem Compare_calls {n m : Nat} (A0 : Option Addr) (c0 : Nat) (l0 : List Int) (A1 : Option Addr) (c1 : Nat) (l1 : List Int) (w : World) (hr0 : Rd w A0 n l0) (hr1 : Rd w A1 m l1) (hb0 : Bytes l0) (hb1 : Bytes l1) :
    Calls Try.prog 21 #[.slice A0 n c0, .slice A1 m c1] w fun e w' => e = .returned (.int .i64 (cmpBytes l0 l1)) ∧ w' = w := by
  have k0 : (Extern.BytealgCompare.compare #[.slice A0 n c0, .slice A1 m c1]).run Try.prog w = .ok (.int .i64 (cmpBytes l0 l1)) w := by
    change Sem.run Try.prog (do pure (goInt (Extern.BytealgCompare.cmp (← Extern.Bytes.bytesOf (.slice A0 n c0)) (← Extern.Bytes.bytesOf (.slice A1 m c1))))) w = _
    simp only [Sem.run_bind, Sem.run_pure, Result.andThen, run_bytesOf hr0, run_bytesOf hr1]
    rw [Lib.cmp_eq, cmpBytes_eq _ _ hb0 hb1]
    rfl
  have K0 := Lib.hid k0
  clear hr0 hr1 k0
  go_enter Try.func21, Try.ntmps21
  go_wp2
  rw [run_callFunc_extern Try.func53 (by kernel_rfl) (by kernel_rfl) (by kernel_rfl) (e := Extern.BytealgCompare.compare) (by kernel_rfl), K0.out]
  simp only [Result.andThen]
  rw [Oper.upon_value]
  go_wp2
  go_ret
  exact ⟨rfl, rfl⟩
theorem Rd.take {w : World} {A : Option Addr} {n : Nat} {l : List Int} (h : Rd w A n l) (m : Nat) (hm : m ≤ n) : Rd w A m (l.take m) := by
  have hl := Kd.C_len h
  have := Kd.C_take (k := Kd.int .u8) (m := m) (hl ▸ h) (by omega)
  rwa [List.length_take, Nat.min_eq_left (by omega)] at this
set_option maxHeartbeats 800000 in
theorem HasPrefix_calls {n m : Nat} (A0 : Option Addr) (c0 : Nat) (l0 : List Int) (A1 : Option Addr) (c1 : Nat) (l1 : List Int) (w : World) (hr0 : Rd w A0 n l0) (hc0 : n ≤ c0) (hr1 : Rd w A1 m l1) (hb0 : Bytes l0) (hb1 : Bytes l1) :
    Calls Try.prog 22 #[.slice A0 n c0, .slice A1 m c1] w fun e w' => e = .returned (.bool (decide (m ≤ n ∧ l0.take m = l1))) ∧ Drawn0 w w' := by
  have hm0 := Kd.C_max hr0
  have hm1 := Kd.C_max hr1
  by_cases hle : m ≤ n
  · have hd : decide (m ≤ n) = true := decide_eq_true hle
    have HR0 := Lib.hid (Rd.take hr0 m hle)
    have HR1 := Lib.hid hr1
    have HE := Lib.hid (show decide (m ≤ n ∧ l0.take m = l1) = decide (l0.take m = l1) by simp [hle])
    clear hr0 hr1
    go_enter Try.func22, Try.ntmps22
    go_wp2_with fail
    refine (Equal_calls _ _ (l0.take m) _ _ l1 _ HR0.out HR1.out (hb0.tk m) hb1).mono ?_
    rintro e w1 ⟨rfl, hd1⟩
    go_wp2
    go_ret
    exact ⟨ret_bool HE.out.symm, hd1⟩
  · have hd : decide (m ≤ n) = false := decide_eq_false hle
    have HE := Lib.hid (show decide (m ≤ n ∧ l0.take m = l1) = false by simp [hle])
    clear hr0 hr1
    go_enter Try.func22, Try.ntmps22
    go_wp2
    go_ret
    exact ⟨ret_bool HE.out.symm, Drawn0.refl _⟩
end Go.Proofs.Ythbdgakeglppbaa
