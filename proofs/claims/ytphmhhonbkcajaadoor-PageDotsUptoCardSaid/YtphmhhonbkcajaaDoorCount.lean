/-
  How many nodes a document has: mark.count, mastref1.Nodes.
-/
import Derived.Test.YtphmhhonbkcajaaDoorNodes
import Derived.Deep.DeepMust
import Derived.Outline
namespace Go.Proofs.YtphmhhonbkcajaaDoor
open Go.RowKit Go.Deep

/-- the nodes of a document -/
def total : List Node → Nat
  | [] => 0
  | .mk _ _ _ _ _ ks :: r => total ks + 1 + total r

theorem total_cons (n : Node) (r : List Node) : total (n :: r) = total n.kids + 1 + total r := by cases n; simp [total, Node.kids]
theorem total_append (a b : List Node) : total (a ++ b) = total a + total b := by
  induction a with
  | nil => simp [total]
  | cons n r ih => rw [List.cons_append, total_cons, total_cons, ih]; omega
theorem total_weight : ∀ (N : Nat) (l : List Node), SizeOf.sizeOf l ≤ N → total l ≤ weight l
  | 0, l, h => by cases l <;> simp at h
  | N + 1, [], _ => by simp [total, weight]
  | N + 1, n :: r, h => by
    rw [total_cons, weight_cons]
    have h1 := n.kids_lt
    simp only [List.cons.sizeOf_spec] at h
    have := total_weight N n.kids (by omega)
    have := total_weight N r (by omega)
    omega
theorem total_take {l : List Node} {k : Nat} {n : Node} (h : l[k]? = some n) : total (l.take (k + 1)) = total (l.take k) + (total n.kids + 1) := by
  obtain ⟨hk, rfl⟩ := List.getElem?_eq_some_iff.1 h
  rw [List.take_succ_eq_append_getElem hk, total_append, total_cons]
  simp [total]
theorem total_le (l : List Node) (k : Nat) : total (l.take k) ≤ total l := by
  have : total l = total (l.take k ++ l.drop k) := by rw [List.take_append_drop]
  rw [this, total_append]
  omega
theorem total_len (l : List Node) : l.length ≤ total l := by
  induction l with
  | nil => simp [total]
  | cons n r ih => rw [total_cons, List.length_cons]; omega
theorem size_at {l : List Node} {N k : Nat} {n : Node} (hN : SizeOf.sizeOf l ≤ N + 1) (h : l[k]? = some n) : SizeOf.sizeOf n.kids ≤ N := by
  have h1 := List.sizeOf_lt_of_mem (List.mem_of_getElem? h)
  have h2 := n.kids_lt
  omega
theorem weight_at {l : List Node} {k : Nat} {n : Node} (h : l[k]? = some n) : n.text.size + n.dest.size + n.title.size + weight n.kids + 1 ≤ weight l := by
  obtain ⟨hk, rfl⟩ := List.getElem?_eq_some_iff.1 h
  clear h
  induction l generalizing k with
  | nil => simp at hk
  | cons a r ih =>
    cases k with
    | zero => simp only [List.getElem_cons_zero, weight_cons]; omega
    | succ k =>
      simp only [List.getElem_cons_succ, weight_cons]
      have := ih (by simpa using hk)
      omega

set_option maxRecDepth 100000 in
set_option maxHeartbeats 1000000 in
theorem count_any (N : Nat) : ∀ (l : List Node) (v : Value) (w : World), SizeOf.sizeOf l ≤ N → NodesAt w v l → total l ≤ 1073741824 →
    Calls Tryd.prog 10 #[v] w fun e w' => ∃ c : Nat, e = .returned (.int .i64 c) ∧ w = w' ∧ c ≤ total l ∧ (c ≤ 4000 → c = total l) := by
  induction N with
  | zero =>
    intro l v w hN
    cases l <;> simp at hN
  | succ N ih =>
    intro l v w hN h ht
    obtain ⟨A, c, b, o, kv, rfl, hlc, hc, hA, hcell, hkid⟩ := h.inv
    unfold maxLen at hc
    have HCell := Lib.hid hcell; clear hcell
    have HKid := Lib.hid hkid; clear hkid
    have HN := Lib.hid hN; clear hN
    have HI := Lib.hid ih; clear ih
    clear h
    go_enter Tryd.func10, Tryd.ntmps10
    go_wp2_with fail
    go_loopw [3, 7] (fun t3 t wr => ∃ (k c : Nat), k ≤ l.length ∧ t = .int .i64 k ∧ t3 = .int .i64 c ∧ c = total (l.take k) ∧ c ≤ 4000 ∧ EqW wr w) (fun _ t _ => l.length - (intOf t).toNat)
    case atStart => exact ⟨0, 0, Nat.zero_le _, rfl, rfl, by simp [total], by omega, EqW.refl _⟩
    case round =>
      obtain ⟨k, c2, hk, rfl, rfl, hc2, hc4, hww⟩ := hrel
      unfold EqW at hww
      subst hww
      by_cases hlt : k < l.length
      · have hA' := hA (by rintro rfl; simp at hlt)
        subst hA'
        obtain ⟨n, hn⟩ : ∃ n, l[k]? = some n := ⟨_, List.getElem?_eq_getElem hlt⟩
        have p5 := (HCell.out k n hn).c5
        have bb := World.block_lt_of_cell? _ _ p5
        simp only at bb
        have htk := total_take hn
        have htl := total_le l (k + 1)
        have hkid := HKid.out k n hn
        obtain ⟨A3, c3, b3, o3, k3, e3, _, _, _, _, _⟩ := hkid.inv
        rw [e3] at hkid p5
        have HK := Lib.hid hkid; clear hkid
        have HSz := Lib.hid (size_at HN.out hn)
        have HT := Lib.hid (And.intro hc2 htk)
        clear hn hA hc2
        have hcc : c2 + 1 ≤ total l := by rw [HT.out.1]; omega
        by_cases hbig : 4000 < c2 + 1
        · clear htk
          go_wp2_with fail
          go_ret
          exact ⟨c2 + 1, by go_num, rfl, hcc, by omega⟩
        · have hkt : total n.kids ≤ 1073741824 := by omega
          clear htk
          go_wp2_with (go_at_call 10; go_must (refine (HI.out n.kids _ _ HSz.out HK.out hkt).mono ?_); rintro e w1 ⟨c5, rfl, rfl, h5, h6⟩)
          · go_ret
            exact ⟨c2 + 1 + c5, by go_num, rfl, by have := HT.out.1; have := HT.out.2; omega, by omega⟩
          · go_roundw
            case rel => exact ⟨k + 1, c2 + 1 + c5, by omega, by go_num, by go_num, by have := HT.out.1; have := HT.out.2; have := h6 (by omega); omega, by omega, EqW.refl _⟩
            case measure => simp [intOf]; omega
      · have hke : l.take k = l := by rw [List.take_of_length_le (by omega)]
        go_wp2_with fail
        go_ret
        exact ⟨c2, rfl, rfl, by rw [hc2, hke]; exact Nat.le_refl _, fun _ => by rw [hc2, hke]⟩


/-- the nodes in the kids of a list's nodes -/
def kidsTotal (l : List Node) : Nat := sumBy (fun n => total n.kids) l
theorem kidsTotal_take {l : List Node} {k : Nat} {n : Node} (h : l[k]? = some n) : kidsTotal (l.take (k + 1)) = kidsTotal (l.take k) + total n.kids := by
  obtain ⟨hk, rfl⟩ := List.getElem?_eq_some_iff.1 h
  rw [kidsTotal, List.take_succ_eq_append_getElem hk, sumBy_append]
  simp [sumBy, kidsTotal]
theorem total_kids (l : List Node) : total l = l.length + kidsTotal l := by
  induction l with
  | nil => simp [total, kidsTotal, sumBy]
  | cons n r ih => rw [total_cons, ih]; simp only [kidsTotal, sumBy, List.length_cons]; omega
theorem kidsTotal_le (l : List Node) (k : Nat) : kidsTotal (l.take k) ≤ total l := by
  have h1 := total_kids (l.take k)
  have h2 := total_le l k
  omega

end Go.Proofs.YtphmhhonbkcajaaDoor
