/- The texts WsPieces, WsockPiecesWalk, WsPartsLaw, WsPartsBase in one. -/
import Derived.Test.YtcfbfmgckaehdaaDoorG02
import Derived.Test.YtcfbfmgckaehdaaDoorG12
import Derived.Test.YtcfbfmgckaehdaaDoorG18
namespace Go.Proofs.YtcfbfmgckaehdaaDoor
open Go.RowKit Go.Proofs.YtcfbfmgckaehdaaDoorW.PrintWords
abbrev rowK : Kd (List Int) := Kd.slice 5 (Kd.int .u8)
/-- A row of one's own, of rows that came in. -/
def OwnP (w0 w : World) (v : Value) (P : List (List Int)) : Prop := Kd.R (Kd.fixed rowK w0) 22 w w0.heap.size (fun _ => True) v P
theorem OwnP.nil (w0 w : World) : OwnP w0 w (.slice none 0 0) [] := Kd.R_nil _ _ _ _ _
theorem OwnP.reads {w0 w : World} {v : Value} {P : List (List Int)} (h : OwnP w0 w v P) (hb : Below w0.heap.size w0 w) : ∃ A c, v = .slice A P.length c ∧ P.length ≤ c ∧ RdL w A P.length P := by
  obtain ⟨A, c, e, hl, hc⟩ := Kd.R_reads h
  exact ⟨A, c, e, hl, ReadsRow.imp_ hc (Below.refl _ _) (fun _ _ hp => rowK.K_below hb hp)⟩
section
variable {ops : Array Oper} {rest : List Oper} {o : Oper} {a : Act} {Q : Exit → Act → World → Prop} {w0 W : World} {s x : Operand} {v : Value} {P : List (List Int)} {p : List Int} {A : Option Addr} {n c : Nat}
theorem appp_one (hO : OwnP w0 W v P) (hp : Rd w0 A n p) (hc : n ≤ c) (hB : Below w0.heap.size w0 W) (hL : P.length ≤ 100000)
    (hgd : o.guard = none) (hop : o.op = .call { callee := .builtin .append, args := #[s, x], argTypes := #[44, 44] }) (hv : a.eval s = v) (hx : a.eval x = .slice (some ⟨W.heap.size, 0, none⟩) 1 1)
    (K : ∀ v1 w1, OwnP w0 w1 v1 (P ++ [p]) → Below w0.heap.size w0 w1 → wpList Tryd.prog ops Q rest (a.put o.dst v1) w1) : wpList Tryd.prog ops Q (o :: rest) a (W.alloc (.cells #[.slice A n c] 22)) := by
  have hl := Kd.C_len hp
  subst hl
  exact Kd.R_append (Kd.fixed rowK w0) (w0 := w0) w0.heap.size hgd s x 44 22 (.slice none 0 0) 24 hop Tryd.underlying44 info_bytes rfl (by show 0 < 1; omega) (by omega) v P p [.slice A p.length c] (fun _ => True) (fun _ => False) hv hx ⟨A, c, rfl, hc, hp⟩ (fun _ h => h.elim) (fun _ _ => trivial) hO hB hB.size (by omega) (fun v1 w1 h1 h2 _ _ => K v1 w1 h1 h2)
end
/-- Within the walk. -/
def PcsAt (w W : World) (b0 : List Int) (B : Option Addr) (nb cb : Nat) (rest : List Int) (v : Value) (P : List (List Int)) : Prop :=
  Rd w B nb rest ∧ nb ≤ cb ∧ P.flatten ++ rest = b0 ∧ Bytes rest ∧ (∀ x ∈ P, Bytes x) ∧ OwnP w W v P ∧ Below w.heap.size w W
theorem PcsAt.len {w W : World} {b0 : List Int} {B : Option Addr} {nb cb : Nat} {rest : List Int} {v : Value} {P : List (List Int)} (h : PcsAt w W b0 B nb cb rest v P) : nb ≤ b0.length := by
  rw [← h.2.2.1, List.length_append, Kd.C_len h.1]
  omega
theorem PcsAt.more {w W W1 : World} {b0 : List Int} {B : Option Addr} {nb cb q : Nat} {rest : List Int} {v v1 : Value} {P : List (List Int)} (h : PcsAt w W b0 B nb cb rest v P) (hq : q ≤ nb) (ho : OwnP w W1 v1 (P ++ [rest.take q])) (hb : Below w.heap.size w W1) :
    PcsAt w W1 b0 (if cb = q then B else B.map (fun x => x.add q)) (nb - q) (cb - q) (rest.drop q) v1 (P ++ [rest.take q]) := by
  have hl := Kd.C_len h.1
  have h1 := h.1
  rw [← hl] at h1
  have hrow := Kd.C_drop (k := Kd.int .u8) (m := q) (c := cb) h1 (by omega) (by have := h.2.1; omega)
  rw [show q * (Kd.int .u8).sz = q from Nat.mul_one q] at hrow
  have hdl : (rest.drop q).length = nb - q := by rw [List.length_drop, hl]
  rw [hdl] at hrow
  refine ⟨hrow, by have := h.2.1; omega, ?_, h.2.2.2.1.dp q, ?_, ho, hb⟩
  · rw [List.flatten_append, List.flatten_singleton, List.append_assoc, List.take_append_drop]
    exact h.2.2.1
  · intro x hx
    rcases List.mem_append.1 hx with h2 | h2
    · exact h.2.2.2.2.1 x h2
    · rw [List.mem_singleton.1 h2]
      exact h.2.2.2.1.tk q
set_option maxRecDepth 20000 in
set_option maxHeartbeats 6400000 in
theorem pieces_calls {n m : Nat} (A : Option Addr) (c : Nat) (b0 : List Int) (C : Option Addr) (d : Nat) (cuts : List Int) (w : World) (hr : Rd w A n b0) (hc : n ≤ c) (hb : Bytes b0) (hn : n ≤ 65536) (hcu : Kd.C (Kd.int .i64) w C m cuts) :
    Calls Tryd.prog 25 #[.slice A n c, .slice C m d] w fun e w' => ∃ A1 n1 c1 P, e = .returned (.slice A1 n1 c1) ∧ RdL w' A1 n1 P ∧ P.flatten = b0 ∧ (∀ x ∈ P, Bytes x) ∧ n1 ≤ c1 ∧ 1 ≤ n1 ∧ n1 ≤ 101 ∧ Below w.heap.size w w' := by
  have HI := Lib.hid (show Kd.C (Kd.int .i64) w C m cuts ∧ m ≤ 9223372036854775807 ∧ b0.length ≤ 65536 ∧ cuts.length = m from ⟨hcu, Kd.C_max hcu, by rw [Kd.C_len hr]; exact hn, Kd.C_len hcu⟩)
  have H0 := Lib.hid (show PcsAt w w b0 A n c b0 (.slice none 0 0) [] from ⟨hr, hc, rfl, hb, fun x hx => (nomatch hx), OwnP.nil _ _, Below.refl _ _⟩)
  clear hr hc hb hn hcu
  go_enter Tryd.func25, Tryd.ntmps25
  go_wp2
  go_loopw [0, 5, 6] (fun bv ov iv wr => ∃ (k : Nat) (B : Option Addr) (nb cb : Nat) (rest : List Int) (P : List (List Int)) (v : Value), v = ov ∧ bv = .slice B nb cb ∧ iv = .int .i64 k ∧ k ≤ m ∧ k ≤ 100 ∧ Hid (PcsAt w wr b0 B nb cb rest v P ∧ P.length = k)) (fun _ _ i _ => m - (intOf i).toNat)
  case atStart => exact ⟨0, A, n, c, b0, [], _, rfl, rfl, rfl, by omega, by omega, Lib.hid ⟨H0.out, rfl⟩⟩
  case round =>
    obtain ⟨k, B, nb, cb, rest, P, v, rfl, rfl, rfl, hk, hk1, HR⟩ := hrel
    clear H0
    by_cases hgo : k < m ∧ k < 100
    · have dk : decide ((k : Int) < m) = true := decide_eq_true (by omega)
      have dk' : decide (k < m) = true := decide_eq_true (by omega)
      have d1 : decide ((k : Int) < 100) = true := decide_eq_true (by omega)
      have d1' : decide (k < 100) = true := decide_eq_true (by omega)
      have wk : IntKind.i64.wrap ((k : Int) + 1) = k + 1 := wrap_id (by omega) (by omega)
      have ikm : (k : Int) < m := by omega
      have i0 : (0 : Int) ≤ k := by omega
      have HK := Lib.hid hgo
      obtain ⟨ad, rfl, x0⟩ := Kd.at_int (Kd.C_below HI.out.1 HR.out.1.2.2.2.2.2.2) (k : Int) (by omega) (by omega)
      rw [Int.toNat_natCast] at x0
      obtain ⟨cut, hcut⟩ : ∃ x, x = rd cuts (k : Nat) := ⟨_, rfl⟩
      rw [← hcut] at x0
      have hnb : nb ≤ 65536 := Nat.le_trans HR.out.1.len HI.out.2.2.1
      obtain ⟨u, hu⟩ : ∃ u : Nat, IntKind.u64.wrap cut = u := ⟨(IntKind.u64.wrap cut).toNat, by rw [IntKind.wrap_u64]; omega⟩
      obtain ⟨q, hq⟩ : ∃ q, q = u % (nb + 1) := ⟨_, rfl⟩
      have hqn : q ≤ nb := by have := Nat.mod_lt u (show nb + 1 > 0 by omega); omega
      have e1 : ((u : Int).tmod ((nb : Int) + 1)) = (q : Int) := by rw [hq]; exact (Int.ofNat_tmod u (nb + 1)).symm
      have wl : IntKind.i64.wrap ((nb : Int) + 1) = (nb : Int) + 1 := wrap_id (by omega) (by omega)
      have wl2 : IntKind.u64.wrap ((nb : Int) + 1) = (nb : Int) + 1 := by rw [IntKind.wrap_u64]; omega
      have wq : IntKind.u64.wrap (q : Int) = q := by rw [IntKind.wrap_u64]; omega
      have wq2 : IntKind.i64.wrap (q : Int) = q := by rw [IntKind.wrap_i64]; omega
      have ln0 : ¬ ((nb : Int) + 1 = 0) := by omega
      have ln1 : (((nb : Int) + 1) == 0) = false := by rw [beq_eq_false_iff_ne]; omega
      have hcb := HR.out.1.2.1
      have j0 : (0 : Int) ≤ q := by omega
      have j1 : (q : Int) ≤ cb := by omega
      have j2 : (q : Int) ≤ nb := by omega
      have j1' : q ≤ cb := by omega
      have j3 : (nb : Int) ≤ cb := by omega
      have HQ := Lib.hid (show q ≤ nb ∧ nb ≤ cb ∧ nb ≤ 65536 from ⟨hqn, hcb, hnb⟩)
      clear hgo hcut hq hnb hk hk1
      have hrow : Rd w B q (rest.take q) := Rd.take HR.out.1.1 q hqn
      have HRW := Lib.hid hrow
      clear hrow
      by_cases hcq : cb = q
      · go_wp2_with (at_builtin; refine appp_one HR.out.1.2.2.2.2.2.1 HRW.out (by omega) HR.out.1.2.2.2.2.2.2 (by have := HR.out.2; have := HK.out; omega) rfl rfl rfl rfl ?_)
        intro v1 w1 ho1 hb1
        have H1 := Lib.hid (HR.out.1.more HQ.out.1 ho1 hb1)
        clear ho1 hb1
        go_wp2
        go_roundw
        case rel => exact ⟨k + 1, _, _, _, _, _, v1, rfl, rfl, by go_num, by have := HK.out; omega, by have := HK.out; omega, Lib.hid ⟨by have h := H1.out; rw [if_pos hcq] at h; exact by rw [hcq, Nat.sub_self] at h; exact h, by rw [List.length_append, HR.out.2]; rfl⟩⟩
        case measure => have := HK.out; simp [intOf]; omega
      · go_wp2_with (at_builtin; refine appp_one HR.out.1.2.2.2.2.2.1 HRW.out (by omega) HR.out.1.2.2.2.2.2.2 (by have := HR.out.2; have := HK.out; omega) rfl rfl rfl rfl ?_)
        intro v1 w1 ho1 hb1
        have H1 := Lib.hid (HR.out.1.more HQ.out.1 ho1 hb1)
        clear ho1 hb1
        go_wp2
        go_roundw
        case rel => exact ⟨k + 1, _, _, _, _, _, v1, rfl, rfl, by go_num, by have := HK.out; omega, by have := HK.out; omega, Lib.hid ⟨by have h := H1.out; rw [if_neg hcq] at h; exact h, by rw [List.length_append, HR.out.2]; rfl⟩⟩
        case measure => have := HK.out; simp [intOf]; omega
    · by_cases hkm : k < m
      · have dk : decide ((k : Int) < m) = true := decide_eq_true (by omega)
        have dk' : decide (k < m) = true := decide_eq_true (by omega)
        have d1 : decide ((k : Int) < 100) = false := decide_eq_false (by omega)
        have d1' : decide (k < 100) = false := decide_eq_false (by omega)
        clear hgo hk hkm
        go_wp2_with (at_builtin; refine appp_one HR.out.1.2.2.2.2.2.1 HR.out.1.1 HR.out.1.2.1 HR.out.1.2.2.2.2.2.2 (by have := HR.out.2; omega) rfl rfl rfl rfl ?_)
        intro v1 w1 ho1 hb1
        obtain ⟨A1, c1, rfl, hc1, hr1⟩ := ho1.reads hb1
        have hfl : (P ++ [rest]).flatten = b0 := by rw [List.flatten_append, List.flatten_singleton]; exact HR.out.1.2.2.1
        have hpl : (P ++ [rest]).length = k + 1 := by rw [List.length_append, HR.out.2]; rfl
        have hby : ∀ x ∈ P ++ [rest], Bytes x := fun x hx => (List.mem_append.1 hx).elim (HR.out.1.2.2.2.2.1 x) (fun h => by rw [List.mem_singleton.1 h]; exact HR.out.1.2.2.2.1)
        have H1 := Lib.hid (And.intro hc1 (And.intro hr1 (And.intro hb1 (And.intro hfl (And.intro hpl hby)))))
        clear ho1 hb1 hc1 hr1 hfl hpl hby
        go_wp2
        go_ret
        exact ⟨A1, _, c1, P ++ [rest], rfl, H1.out.2.1, H1.out.2.2.2.1, H1.out.2.2.2.2.2, H1.out.1, by have := H1.out.2.2.2.2.1; omega, by have := H1.out.2.2.2.2.1; omega, H1.out.2.2.1⟩
      · have dk : decide ((k : Int) < m) = false := decide_eq_false (by omega)
        have dk' : decide (k < m) = false := decide_eq_false (by omega)
        clear hgo hk hkm
        go_wp2_with (at_builtin; refine appp_one HR.out.1.2.2.2.2.2.1 HR.out.1.1 HR.out.1.2.1 HR.out.1.2.2.2.2.2.2 (by have := HR.out.2; omega) rfl rfl rfl rfl ?_)
        intro v1 w1 ho1 hb1
        obtain ⟨A1, c1, rfl, hc1, hr1⟩ := ho1.reads hb1
        have hfl : (P ++ [rest]).flatten = b0 := by rw [List.flatten_append, List.flatten_singleton]; exact HR.out.1.2.2.1
        have hpl : (P ++ [rest]).length = k + 1 := by rw [List.length_append, HR.out.2]; rfl
        have hby : ∀ x ∈ P ++ [rest], Bytes x := fun x hx => (List.mem_append.1 hx).elim (HR.out.1.2.2.2.2.1 x) (fun h => by rw [List.mem_singleton.1 h]; exact HR.out.1.2.2.2.1)
        have H1 := Lib.hid (And.intro hc1 (And.intro hr1 (And.intro hb1 (And.intro hfl (And.intro hpl hby)))))
        clear ho1 hb1 hc1 hr1 hfl hpl hby
        go_wp2
        go_ret
        exact ⟨A1, _, c1, P ++ [rest], rfl, H1.out.2.1, H1.out.2.2.2.1, H1.out.2.2.2.2.2, H1.out.1, by have := H1.out.2.2.2.2.1; omega, by have := H1.out.2.2.2.2.1; omega, H1.out.2.2.1⟩
end Go.Proofs.YtcfbfmgckaehdaaDoor
namespace Go.Proofs.YtcfbfmgckaehdaaDoor
open Go.RowKit Go.Proofs.YtcfbfmgckaehdaaDoorW.PrintWords
theorem RdL.one {w : World} {g : Nat} {A : Option Addr} {n c : Nat} {b : List Int} (hk : w.cell? ⟨g, 0, none⟩ = some (.slice A n c)) (hr : Rd w A n b) (hc : n ≤ c) : RdL w (some ⟨g, 0, none⟩) 1 [b] := by
  have hl := Kd.C_len hr
  subst hl
  refine ⟨rfl, by decide, fun _ => ⟨⟨g, 0, none⟩, rfl, fun j p hj => ?_⟩⟩
  cases j with
  | succ j => simp at hj
  | zero =>
    simp at hj
    subst hj
    refine ⟨[.slice A b.length c], rfl, ⟨A, c, rfl, hc, hr⟩, fun i u hu => ?_⟩
    cases i with
    | zero =>
      simp at hu
      subst hu
      rw [show 0 * (Kd.slice 5 (Kd.int .u8)).sz + 0 = 0 from rfl]
      exact hk
    | succ i => simp at hu
theorem evsV_all {P : List (List Int)} {b : List Int} {server : Bool} (hP : P.flatten = b) (hb : ∀ x ∈ P, Bytes x) : evsV P ⟨server, false, [], 0, []⟩ = drainW (addW ⟨server, false, [], 0, []⟩ b) := by
  rw [evsV_flat P _ hb Bytes.nil rfl (nextW_more (f := zeroF) (k := 0) rfl (rdF_empty _ rfl)), hP]
end Go.Proofs.YtcfbfmgckaehdaaDoor
namespace Go.Proofs.YtcfbfmgckaehdaaDoor
open Go.RowKit Go.Proofs.YtcfbfmgckaehdaaDoorW.PrintWords
def pingE (ping : List Int) : Evt := ⟨9, 0, ping, false⟩
def opOf (first : Bool) (op : Int) : Int := if first = true then op else 0
/-- The bytes of the parts. -/
def partsB (op : Int) (ping : List Int) : Bool → List (List Int) → List Int
  | _, [] => []
  | first, [p] => wrL ⟨true, opOf first op, p⟩ []
  | first, p :: q :: ps => wrL ⟨false, opOf first op, p⟩ [] ++ (wrL ⟨true, 9, ping⟩ [] ++ partsB op ping false (q :: ps))
theorem part_wrE {fin first : Bool} {op : Int} {p : List Int} (hop : op = 1 ∨ op = 2) (hl : p.length ≤ 16384) : wrE ⟨fin, opOf first op, p⟩ 0 = 0 := by
  unfold wrE
  rw [if_neg (by decide)]
  have hk : knownB (opOf first op) = true ∧ ¬ 8 ≤ opOf first op := by
    unfold opOf knownB
    rcases hop with rfl | rfl <;> cases first <;> exact ⟨by decide, by decide⟩
  rw [if_neg (by simp [hk.1]; omega), if_neg (by show ¬ 16384 < p.length; omega)]
theorem ping_wrE {ping : List Int} (hl : ping.length ≤ 125) : wrE ⟨true, 9, ping⟩ 0 = 0 := by
  unfold wrE
  rw [if_neg (by decide), if_neg (by simp [knownB]; omega), if_neg (by show ¬ 16384 < ping.length; omega)]
theorem rdF_part {f : Frm} (h : wrE f 0 = 0) (hl : Bytes f.load) (d : List Int) : rdF (wrL f [] ++ d) false = (f, ((wrL f []).length : Int), 0) := rdF_wrL (m := []) h hl Bytes.nil d
theorem partsB_Bytes {op : Int} {ping : List Int} (hop : op = 1 ∨ op = 2) (hpb : Bytes ping) (hpl : ping.length ≤ 125) : ∀ (first : Bool) (P : List (List Int)), (∀ x ∈ P, Bytes x) → (∀ x ∈ P, x.length ≤ 16384) → Bytes (partsB op ping first P)
  | _, [], _, _ => Bytes.nil
  | _, [p], hb, hl => wrL_Bytes (m := []) (part_wrE hop (hl p (List.mem_cons_self ..))) (hb p (List.mem_cons_self ..)) Bytes.nil
  | _, p :: q :: ps, hb, hl => Bytes.app (wrL_Bytes (m := []) (part_wrE hop (hl p (List.mem_cons_self ..))) (hb p (List.mem_cons_self ..)) Bytes.nil) (Bytes.app (wrL_Bytes (m := []) (ping_wrE hpl) hpb Bytes.nil) (partsB_Bytes hop hpb hpl false (q :: ps) (fun x hx => hb x (List.mem_cons_of_mem _ hx)) (fun x hx => hl x (List.mem_cons_of_mem _ hx))))
theorem wrL_len0 (f : Frm) : (wrL f []).length ≤ 4 + f.load.length := by
  rw [wrL_length]
  show 2 + _ + 0 + f.load.length ≤ _
  split <;> omega
theorem partsB_length {op : Int} {ping : List Int} (hpl : ping.length ≤ 125) : ∀ (first : Bool) (P : List (List Int)), (partsB op ping first P).length ≤ 133 * P.length + P.flatten.length
  | _, [] => Nat.zero_le _
  | first, [p] => by
    have h := wrL_len0 ⟨true, opOf first op, p⟩
    rw [List.flatten_singleton]
    show (wrL ⟨true, opOf first op, p⟩ []).length ≤ 133 * 1 + p.length
    have h : (wrL ⟨true, opOf first op, p⟩ []).length ≤ 4 + p.length := h
    omega
  | first, p :: q :: ps => by
    have h1 : (wrL ⟨false, opOf first op, p⟩ []).length ≤ 4 + p.length := wrL_len0 _
    have h2 : (wrL ⟨true, 9, ping⟩ []).length ≤ 4 + ping.length := wrL_len0 _
    have h3 := partsB_length (op := op) hpl false (q :: ps)
    show (wrL ⟨false, opOf first op, p⟩ [] ++ (wrL ⟨true, 9, ping⟩ [] ++ partsB op ping false (q :: ps))).length ≤ 133 * (p :: q :: ps).length + (p :: (q :: ps)).flatten.length
    rw [List.length_append, List.length_append, List.flatten_cons, List.length_append, List.length_cons]
    omega
/-- A state within the message. -/
def midC (first : Bool) (op : Int) (wait L : List Int) : Cn := ⟨false, false, wait, if first = true then 0 else op, L⟩
theorem mid_good {first : Bool} {op : Int} {wait L p : List Int} {fin : Bool} (hop : op = 1 ∨ op = 2) : (decide ((⟨fin, opOf first op, p⟩ : Frm).op = 0) != decide ((midC first op wait L).op ≠ 0)) = false := by
  unfold midC opOf
  rcases hop with rfl | rfl <;> cases first <;> rfl
theorem mid_join {first : Bool} {op : Int} {wait L p : List Int} {fin : Bool} (hop : op = 1 ∨ op = 2) : joinOp (midC first op wait L) ⟨fin, opOf first op, p⟩ = op := by
  unfold joinOp midC opOf
  rcases hop with rfl | rfl <;> cases first <;> rfl
theorem mid_last {first : Bool} {op : Int} {w L p : List Int} (hop : op = 1 ∨ op = 2) (hl : L.length + p.length ≤ 16384) (hc : op = 1 → ¬ 0 ≤ charsOf (L ++ p)) : partV (midC first op w L) ⟨true, opOf first op, p⟩ = (⟨false, false, w, 0, []⟩, some ⟨op, 0, L ++ p, false⟩) := by
  unfold partV
  rw [if_neg (by rw [mid_good hop]; decide), if_neg (by show ¬ 16384 < L.length + p.length; omega), if_neg (by show ¬ true = false; decide), mid_join hop, if_neg (fun h => hc h.1 h.2)]
  rfl
theorem mid_goes {first : Bool} {op : Int} {w L p : List Int} (hop : op = 1 ∨ op = 2) (hl : L.length + p.length ≤ 16384) : partV (midC first op w L) ⟨false, opOf first op, p⟩ = (midC false op w (L ++ p), none) := by
  unfold partV
  rw [if_neg (by rw [mid_good hop]; decide), if_neg (by show ¬ 16384 < L.length + p.length; omega), if_pos rfl, mid_join hop]
  rfl
theorem op_small {first : Bool} {op : Int} (hop : op = 1 ∨ op = 2) : opOf first op ≠ 8 ∧ ¬ (opOf first op = 9 ∨ opOf first op = 10) := by
  unfold opOf
  rcases hop with rfl | rfl <;> cases first <;> exact ⟨by decide, by decide⟩
theorem parts_drain {op : Int} {ping : List Int} (hop : op = 1 ∨ op = 2) (hpb : Bytes ping) (hpl : ping.length ≤ 125) : ∀ (P : List (List Int)) (first : Bool) (L : List Int), P ≠ [] → (∀ x ∈ P, Bytes x) → L.length + P.flatten.length ≤ 16384 → (op = 1 → ¬ 0 ≤ charsOf (L ++ P.flatten)) →
    (drainW (midC first op (partsB op ping first P) L)).1 = List.replicate (P.length - 1) (pingE ping) ++ [⟨op, 0, L ++ P.flatten, false⟩]
  | [], _, _, h, _, _, _ => absurd rfl h
  | [p], first, L, _, hb, hl, hc => by
    rw [List.flatten_singleton] at hl hc ⊢
    have hpl : p.length ≤ 16384 := by omega
    have hE := part_wrE (fin := true) (first := first) hop hpl
    have hW := wrL_Bytes (m := []) hE (hb p (List.mem_cons_self ..)) Bytes.nil
    have hr := rdF_part hE (hb p (List.mem_cons_self ..)) []
    rw [List.append_nil] at hr
    have hp : partV { midC first op (partsB op ping first [p]) L with wait := (partsB op ping first [p]).drop (wrL ⟨true, opOf first op, p⟩ []).length } ⟨true, opOf first op, p⟩ = (⟨false, false, (partsB op ping first [p]).drop (wrL ⟨true, opOf first op, p⟩ []).length, 0, []⟩, some ⟨op, 0, L ++ p, false⟩) :=
      mid_last (L := L) hop (by omega) hc
    have hn := nextW_part (c := midC first op (partsB op ping first [p]) L) rfl hr (op_small hop).1 (op_small hop).2 hp
    have hw0 : (partsB op ping first [p]).drop (wrL ⟨true, opOf first op, p⟩ []).length = [] := List.drop_length ..
    rw [drainW_some hW hn, hw0, drainW_none (nextW_more (f := zeroF) (k := 0) rfl (rdF_empty _ rfl))]
    rfl
  | p :: q :: ps, first, L, _, hb, hl, hc => by
    have hfl : (p :: q :: ps).flatten = p ++ (q :: ps).flatten := List.flatten_cons
    have hl2 : (L ++ p).length + (q :: ps).flatten.length ≤ 16384 := by rw [hfl, List.length_append] at hl; rw [List.length_append]; omega
    have hpl2 : p.length ≤ 16384 := by rw [List.length_append] at hl2; omega
    have hE := part_wrE (fin := false) (first := first) hop hpl2
    have hEp := ping_wrE hpl
    have hbp := hb p (List.mem_cons_self ..)
    have hbr : ∀ x ∈ q :: ps, Bytes x := fun x hx => hb x (List.mem_cons_of_mem _ hx)
    have hmem : ∀ x ∈ q :: ps, x.length ≤ 16384 := fun x hx => by
      have h1 : x.length ≤ (q :: ps).flatten.length := by
        obtain ⟨s, t, hst⟩ := List.append_of_mem hx
        rw [hst, List.flatten_append, List.flatten_cons, List.length_append, List.length_append]
        omega
      omega
    have hBr := partsB_Bytes hop hpb hpl false (q :: ps) hbr hmem
    have hBp := wrL_Bytes (m := []) hEp hpb Bytes.nil
    have hBall : Bytes (partsB op ping first (p :: q :: ps)) := Bytes.app (wrL_Bytes (m := []) hE hbp Bytes.nil) (Bytes.app hBp hBr)
    have hr := rdF_part hE hbp (wrL ⟨true, 9, ping⟩ [] ++ partsB op ping false (q :: ps))
    have hd1 : (partsB op ping first (p :: q :: ps)).drop (wrL ⟨false, opOf first op, p⟩ []).length = wrL ⟨true, 9, ping⟩ [] ++ partsB op ping false (q :: ps) := List.drop_left ..
    have hp : partV { midC first op (partsB op ping first (p :: q :: ps)) L with wait := (partsB op ping first (p :: q :: ps)).drop (wrL ⟨false, opOf first op, p⟩ []).length } ⟨false, opOf first op, p⟩ = (midC false op (wrL ⟨true, 9, ping⟩ [] ++ partsB op ping false (q :: ps)) (L ++ p), none) := by
      rw [hd1]
      exact mid_goes (L := L) hop (by rw [List.length_append] at hl2; omega)
    have hn1 := nextW_step (c := midC first op (partsB op ping first (p :: q :: ps)) L) rfl hr hBall (op_small hop).1 (op_small hop).2 hp
    have hr2 := rdF_part hEp hpb (partsB op ping false (q :: ps))
    have hn2 := nextW_ping (c := midC false op (wrL ⟨true, 9, ping⟩ [] ++ partsB op ping false (q :: ps)) (L ++ p)) rfl hr2 (.inl rfl)
    have hd2 : ({ midC false op (wrL ⟨true, 9, ping⟩ [] ++ partsB op ping false (q :: ps)) (L ++ p) with wait := (wrL ⟨true, 9, ping⟩ [] ++ partsB op ping false (q :: ps)).drop (wrL ⟨true, 9, ping⟩ []).length } : Cn) = midC false op (partsB op ping false (q :: ps)) (L ++ p) := by
      rw [List.drop_left]
      rfl
    have hn3 : nextW (midC first op (partsB op ping first (p :: q :: ps)) L) = (midC false op (partsB op ping false (q :: ps)) (L ++ p), some (pingE ping)) := by
      rw [hn1, hn2]
      exact congrArg (fun z => (z, some (pingE ping))) hd2
    have ih := parts_drain hop hpb hpl (q :: ps) false (L ++ p) (by simp) hbr hl2 (by rw [List.append_assoc, ← hfl]; exact hc)
    rw [drainW_some hBall hn3, ih, List.append_assoc, ← hfl]
    show pingE ping :: (List.replicate ((q :: ps).length - 1) (pingE ping) ++ _) = List.replicate ((p :: q :: ps).length - 1) (pingE ping) ++ _
    rw [show (p :: q :: ps).length - 1 = (q :: ps).length - 1 + 1 from rfl, List.replicate_succ]
    rfl
end Go.Proofs.YtcfbfmgckaehdaaDoor
namespace Go.Proofs.YtcfbfmgckaehdaaDoor
open Go.RowKit Go.Proofs.YtcfbfmgckaehdaaDoorW.PrintWords
theorem parts_last {op : Int} {ping al p : List Int} {first b : Bool} {R : List (List Int)} (h : R = [p]) : al ++ partsB op ping first R = (al ++ wrL ⟨true, opOf first op, p⟩ []) ++ partsB op ping b [] := by
  subst h
  show al ++ wrL _ [] = (al ++ wrL _ []) ++ []
  rw [List.append_nil]
theorem parts_goes {op : Int} {ping al p : List Int} {first : Bool} {R r : List (List Int)} (h : R = p :: r) (hr : r ≠ []) : al ++ partsB op ping first R = ((al ++ wrL ⟨false, opOf first op, p⟩ []) ++ wrL ⟨true, 9, ping⟩ []) ++ partsB op ping false r := by
  subst h
  cases r with
  | nil => exact absurd rfl hr
  | cons q ps =>
    show al ++ (wrL _ [] ++ (wrL _ [] ++ partsB op ping false (q :: ps))) = _
    rw [List.append_assoc, List.append_assoc]
theorem flat_mem {P : List (List Int)} {x : List Int} (h : x ∈ P) : x.length ≤ P.flatten.length := by
  obtain ⟨s, t, hst⟩ := List.append_of_mem h
  rw [hst, List.flatten_append, List.flatten_cons, List.length_append, List.length_append]
  omega
/-- What is told of all parts. -/
def toldL (op : Int) (ping l : List Int) (N : Nat) : List Evt := List.replicate N (pingE ping) ++ [⟨op, 0, l, false⟩]
theorem toldL_len (op : Int) (ping l : List Int) (N : Nat) : (toldL op ping l N).length = N + 1 := by unfold toldL; rw [List.length_append, List.length_replicate]; rfl
theorem toldL_end (op : Int) (ping l : List Int) (N : Nat) : (toldL op ping l N).getD N Evt.none = ⟨op, 0, l, false⟩ := by
  unfold toldL
  rw [List.getD_eq_getElem?_getD, List.getElem?_append_right (by rw [List.length_replicate]; exact Nat.le_refl _), List.length_replicate, Nat.sub_self]
  rfl
theorem toldL_at (op : Int) (ping l : List Int) (N k : Nat) (h : k < N) : (toldL op ping l N).getD k Evt.none = pingE ping := by
  unfold toldL
  rw [List.getD_eq_getElem?_getD, List.getElem?_append_left (by rw [List.length_replicate]; exact h), List.getElem?_replicate_of_lt h]
  rfl
theorem told_all {op : Int} {ping l : List Int} {P : List (List Int)} {N : Nat} (hop : op = 1 ∨ op = 2) (hpb : Bytes ping) (hpl : ping.length ≤ 125) (hP : P.length = N + 1) (hf : P.flatten = l) (hb : ∀ x ∈ P, Bytes x) (hl : l.length ≤ 16384) (hc : op = 1 → ¬ 0 ≤ charsOf l) :
    (evsV [partsB op ping true P] ⟨false, false, [], 0, []⟩).1 = toldL op ping l N := by
  have hB := partsB_Bytes hop hpb hpl true P hb (fun x hx => by have := flat_mem hx; rw [hf] at this; omega)
  rw [evsV_all (P := [partsB op ping true P]) (b := partsB op ping true P) List.flatten_singleton (fun x hx => by rw [List.mem_singleton.1 hx]; exact hB)]
  have h := parts_drain hop hpb hpl P true [] (by intro e; rw [e] at hP; cases hP) hb (by rw [hf]; show 0 + l.length ≤ 16384; omega) (by rw [hf, List.nil_append]; exact hc)
  rw [hf, hP, List.nil_append] at h
  exact h
/-- Within the first loop. -/
def PrtAt (w3 W : World) (v : Value) (al : List Int) (op : Int) (ping : List Int) (P : List (List Int)) (k : Nat) : Prop :=
  Own w3 W v al ∧ Below w3.heap.size w3 W ∧ partsB op ping true P = al ++ partsB op ping (decide (k = 0)) (P.drop k)
theorem PrtAt.len {w3 W : World} {v : Value} {al : List Int} {op : Int} {ping : List Int} {P : List (List Int)} {k : Nat} (h : PrtAt w3 W v al op ping P k) (hpl : ping.length ≤ 125) (hn : P.length ≤ 101) (hf : P.flatten.length ≤ 16384) : al.length ≤ 40000 := by
  have h1 := partsB_length (op := op) hpl true P
  rw [h.2.2, List.length_append] at h1
  omega
end Go.Proofs.YtcfbfmgckaehdaaDoor
