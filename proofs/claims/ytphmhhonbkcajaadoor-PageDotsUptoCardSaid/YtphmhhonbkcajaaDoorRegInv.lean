/-
  A region that draws its order, by ONE invariant over what has come up: each operation is walked once, not once for each order.
-/
import Derived.Test.YtphmhhonbkcajaaDoorOwn
import Derived.BigQuiet
import Derived.Deep.QuietTactic
import Derived.RegionTactic
import Derived.Outline
import Derived.StillTail
namespace Go.Proofs.YtphmhhonbkcajaaDoor
open Go.RowKit Go.Deep

section
variable {P : Program} {ops : Array Oper} {Q : Exit → Act → World → Prop} {md : Region.Mode}

/-- what number k waits for -/
def depsOf (md : Region.Mode) (ops : Array Oper) (k : Nat) : List Nat :=
  match ops[k]? with
  | some o => (o.after.toList.filter fun e => Region.binds md e).map (·.on)
  | none => []
/-- what must have come up before number k, at most f steps away -/
def ancOf (md : Region.Mode) (ops : Array Oper) : Nat → Nat → List Nat
  | 0, _ => []
  | f + 1, k => (depsOf md ops k).flatMap fun d => d :: ancOf md ops f d
/-- with each that has come up, all that it waits for -/
def ShutL (md : Region.Mode) (ops : Array Oper) (listed : Array Bool) : Prop := ∀ k, listed.getD k false = true → ∀ d ∈ depsOf md ops k, listed.getD d false = true

theorem ready_deps {k : Nat} {listed : Array Bool} (h : k ∈ Region.ready md ops listed) : ∀ d ∈ depsOf md ops k, listed.getD d false = true := by
  obtain ⟨_, o, ho, hall⟩ := mem_ready.1 h
  intro d hd
  unfold depsOf at hd
  rw [ho] at hd
  obtain ⟨e, he, rfl⟩ := List.mem_map.1 hd
  obtain ⟨he1, he2⟩ := List.mem_filter.1 he
  exact hall e (Array.mem_toList_iff.1 he1) he2
theorem ready_of_deps {k : Nat} {o : Oper} {listed : Array Bool} (ho : ops[k]? = some o) (hu : listed.getD k true = false) (h : ∀ d ∈ depsOf md ops k, listed.getD d false = true) : k ∈ Region.ready md ops listed := by
  refine mem_ready.2 ⟨hu, o, ho, fun e he hb => h _ ?_⟩
  unfold depsOf
  rw [ho]
  exact List.mem_map.2 ⟨e, List.mem_filter.2 ⟨Array.mem_toList_iff.2 he, hb⟩, rfl⟩
theorem ShutL.anc {listed : Array Bool} (hs : ShutL md ops listed) : ∀ (f k : Nat), (∀ d ∈ depsOf md ops k, listed.getD d false = true) → ∀ i ∈ ancOf md ops f k, listed.getD i false = true
  | 0, _, _, i, hi => by cases hi
  | f + 1, k, h, i, hi => by
    obtain ⟨d, hd, hi2⟩ := List.mem_flatMap.1 hi
    rcases List.mem_cons.1 hi2 with rfl | hi3
    · exact h _ hd
    · exact hs.anc f d (hs d (h d hd)) i hi3
theorem ShutL.set {i : Nat} {listed : Array Bool} (hs : ShutL md ops listed) (hi : i ∈ Region.ready md ops listed) : ShutL md ops (listed.setIfInBounds i true) := by
  intro k hk d hd
  by_cases hik : i = k
  · subst hik
    exact getD_set_true (ready_deps hi d hd)
  · rw [getD_set_ne false hik] at hk
    exact getD_set_true (hs k hk d hd)

/-- the check: each operation waits for earlier ones alone; F stands ahead of all others that are not listed at the start -/
def invB (md : Region.Mode) (ops : Array Oper) (F : List Nat) (listed : Array Bool) : Bool :=
  decide (listed.size = ops.size) && decide F.Nodup && (F.all fun i => decide (i < ops.size) && !listed.getD i false) &&
  ((List.range ops.size).all fun k => (depsOf md ops k).all fun d => decide (d < k)) &&
  ((List.range ops.size).all fun k => !listed.getD k false || (depsOf md ops k).all fun d => listed.getD d false) &&
  ((List.range ops.size).all fun k => listed.getD k false || F.contains k || F.all fun i => (ancOf md ops ops.size k).contains i)

theorem getD_same {listed : Array Bool} {k : Nat} (hk : k < listed.size) (b c : Bool) : listed.getD k b = listed.getD k c := by
  simp [hk]

theorem wpAny_inv_rem {F : List Nat} {Inv : Array Bool → Act → World → Prop} {listed0 listedF : Array Bool} {g : Nat} (hB : invB md ops F listed0 = true) (hF : F.foldl (fun l i => l.setIfInBounds i true) listed0 = listedF)
    (step : ∀ i ∈ F, ∀ listed a w, ShutL md ops listed → i ∈ Region.ready md ops listed → Inv listed a w → wpOp P ops Q i (Inv (listed.setIfInBounds i true)) a w)
    (last : ∀ a w, Inv listedF a w → wpAny P md ops Q g listedF a w) :
    ∀ (m : Nat) (rem : List Nat) (listed : Array Bool) (a : Act) (w : World), rem.length = m → rem.Nodup → (∀ k ∈ rem, k ∈ F ∧ listed.getD k false = false) → (∀ k ∈ F, k ∉ rem → listed.getD k false = true) →
      ShutL md ops listed → listed.size = ops.size → (∀ k, listed0.getD k false = true → listed.getD k false = true) → rem.foldl (fun l i => l.setIfInBounds i true) listed = listedF → Inv listed a w → wpAny P md ops Q (m + g) listed a w := by
  simp only [invB, Bool.and_eq_true, decide_eq_true_eq, List.all_eq_true, List.mem_range] at hB
  obtain ⟨⟨⟨⟨⟨hsz, hnd⟩, hFin⟩, hacy⟩, hcl⟩, hanc⟩ := hB
  intro m
  induction m with
  | zero =>
    intro rem listed a w hlen _ _ _ _ _ _ hfold hI
    have : rem = [] := List.length_eq_zero_iff.1 hlen
    subst this
    rw [Nat.zero_add]
    have : listed = listedF := hfold
    subst this
    exact last a w hI
  | succ m ih =>
    intro rem listed a w hlen hrn hr1 hr2 hs hsize h0 hfold hI
    obtain ⟨i0, hi0⟩ : ∃ i, i ∈ rem := List.exists_mem_of_length_pos (by omega)
    have hun0 := hr1 i0 hi0
    rw [show m + 1 + g = (m + g) + 1 by omega]
    refine ⟨fun hre => ?_, fun i hi => ?_⟩
    · exfalso
      -- the least that has not come up may come up
      have hex : ∀ k, k < ops.size → listed.getD k false = false → ∃ j, j ∈ Region.ready md ops listed := by
        intro k
        induction k using Nat.strongRecOn with
        | _ k ihk =>
          intro hk hku
          by_cases hd : ∀ d ∈ depsOf md ops k, listed.getD d false = true
          · exact ⟨k, ready_of_deps (Array.getElem?_eq_getElem hk) (by rw [getD_same (by omega) true false]; exact hku) hd⟩
          · simp only [Classical.not_forall, Bool.not_eq_true] at hd
            obtain ⟨d, hd1, hd2⟩ := hd
            have hdk := hacy k hk d hd1
            exact ihk d hdk (by omega) hd2
      have hi0F := hFin i0 hun0.1
      obtain ⟨j, hj⟩ := hex i0 hi0F.1 hun0.2
      rw [hre] at hj
      cases hj
    · have hiu := (mem_ready.1 hi).1
      obtain ⟨_, oi, hoi, _⟩ := mem_ready.1 hi
      have hisz : i < ops.size := (Array.getElem?_eq_some_iff.1 hoi).1
      have hiF : i ∈ F := by
        have h1 := hanc i hisz
        simp only [Bool.or_eq_true, List.all_eq_true] at h1
        rcases h1 with (h1 | h1) | h1
        · have := h0 i h1
          rw [getD_same (by omega) false true, hiu] at this
          cases this
        · simpa using h1
        · have := hs.anc ops.size i (ready_deps hi) i0 (by simpa using h1 i0 hun0.1)
          rw [hun0.2] at this
          cases this
      have hirem : i ∈ rem := by
        by_cases h : i ∈ rem
        · exact h
        · have := hr2 i hiF h
          rw [getD_same (by omega) false true, hiu] at this
          cases this
      refine wpOp_mono (fun a' w' h' => ih (rem.erase i) _ a' w' ?_ (hrn.erase i) ?_ ?_ (hs.set hi) (by simp [hsize]) ?_ ?_ h') (step i hiF listed a w hs hi hI)
      · rw [List.length_erase_of_mem hirem, hlen]; rfl
      · intro k hk
        obtain ⟨h1, h2⟩ := hrn.mem_erase_iff.1 hk
        exact ⟨(hr1 k h2).1, by rw [getD_set_ne false (Ne.symm h1)]; exact (hr1 k h2).2⟩
      · intro k hk hk2
        by_cases hki : k = i
        · subst hki
          simp [show k < listed.size by omega]
        · exact getD_set_true (hr2 k hk (fun h3 => hk2 (hrn.mem_erase_iff.2 ⟨hki, h3⟩)))
      · exact fun k hk => getD_set_true (h0 k hk)
      · rw [← hfold]
        have hcomm : ∀ (l : List Nat) (b : Array Bool), l.foldl (fun l i => l.setIfInBounds i true) (b.setIfInBounds i true) = (l.foldl (fun l i => l.setIfInBounds i true) b).setIfInBounds i true := by
          intro l
          induction l with
          | nil => intro b; rfl
          | cons x l ihl =>
            intro b
            simp only [List.foldl_cons]
            by_cases hx : i = x
            · subst hx; exact ihl _
            · rw [Array.setIfInBounds_comm _ _ hx]; exact ihl _
        have hmove : ∀ (l : List Nat) (b : Array Bool), i ∈ l → (l.erase i).foldl (fun l i => l.setIfInBounds i true) (b.setIfInBounds i true) = l.foldl (fun l i => l.setIfInBounds i true) b := by
          intro l
          induction l with
          | nil => intro b h; cases h
          | cons x l ihl =>
            intro b h
            by_cases hx : x = i
            · subst hx; rw [List.erase_cons_head]; rfl
            · rw [List.erase_cons_tail (by simpa using hx), List.foldl_cons, List.foldl_cons, Array.setIfInBounds_comm _ _ (Ne.symm hx)]
              exact ihl _ (by rcases List.mem_cons.1 h with h | h; exact absurd h.symm hx; exact h)
        exact hmove rem listed hirem

/-- **The law**: every operation of F keeps the invariant, whatever else has come up; behind F the rest goes on from what the invariant says there. -/
theorem wpAny_inv (F : List Nat) (Inv : Array Bool → Act → World → Prop) {listed0 : Array Bool} (listedF : Array Bool) {g n : Nat} {a : Act} {w : World} (hB : invB md ops F listed0 = true) (hF : F.foldl (fun l i => l.setIfInBounds i true) listed0 = listedF) (hn : F.length + g = n)
    (start : Inv listed0 a w)
    (step : ∀ i ∈ F, ∀ listed a w, ShutL md ops listed → i ∈ Region.ready md ops listed → Inv listed a w → wpOp P ops Q i (Inv (listed.setIfInBounds i true)) a w)
    (last : ∀ a w, Inv listedF a w → wpAny P md ops Q g listedF a w) : wpAny P md ops Q n listed0 a w := by
  have hB' := hB
  simp only [invB, Bool.and_eq_true, decide_eq_true_eq, List.all_eq_true, List.mem_range] at hB'
  obtain ⟨⟨⟨⟨⟨hsz, hnd⟩, hFin⟩, hacy⟩, hcl⟩, hanc⟩ := hB'
  rw [← hn]
  refine wpAny_inv_rem hB hF step last F.length F listed0 a w rfl hnd (fun k hk => ⟨hk, ?_⟩) (fun k hk h => absurd hk h) (fun k hk d hd => ?_) hsz (fun _ h => h) hF start
  · have := hFin k hk
    simpa using this.2
  · have hksz : k < ops.size := by
      rcases Nat.lt_or_ge k listed0.size with h | h
      · omega
      · simp [Array.getElem?_eq_none h] at hk
    have := hcl k hksz
    simp only [hk, Bool.not_true, Bool.false_or, List.all_eq_true] at this
    exact this d hd
end

theorem ready_un {md : Region.Mode} {ops : Array Oper} {k : Nat} {L : Array Bool} (h : k ∈ Region.ready md ops L) : L.getD k false = false := getD_both (mem_ready.1 h).1
theorem wpAny_of_seqA {P : Program} {ops : Array Oper} {Q : Exit → Act → World → Prop} {md : Region.Mode} {listed : Array Bool} {a : Act} {w : World} (n k : Nat) (hl : (ops.toList.drop k).length = n) (hB : Region.seqB md ops n k listed = true) (h : wpList P ops Q (ops.toList.drop k) a w) : wpAny P md ops Q n listed a w := by
  subst hl
  exact wpAny_of_seq _ k _ _ _ (fun j => by simp [List.getElem?_drop]) hB h
theorem shut_dep {md : Region.Mode} {ops : Array Oper} {k d : Nat} {L : Array Bool} (hs : ShutL md ops L) (h : L.getD k false = true) (hc : (depsOf md ops k).contains d = true) : L.getD d false = true := hs k h d (by simpa using hc)
theorem ready_dep {md : Region.Mode} {ops : Array Oper} {k d : Nat} {L : Array Bool} (h : k ∈ Region.ready md ops L) (hc : (depsOf md ops k).contains d = true) : L.getD d false = true := ready_deps h d (by simpa using hc)
theorem getD_was {L : Array Bool} {i j : Nat} (hij : i ≠ j) (h : (L.setIfInBounds i true).getD j false = true) : L.getD j false = true := by rw [getD_set_ne false hij] at h; exact h

end Go.Proofs.YtphmhhonbkcajaaDoor
