/-
  A BLOCKING COMMUNICATION OVER CHANNELS WITHOUT A BUFFER, in whatever company: it parks; or it finds its channel closed; or it meets one who waits.
-/
import Derived.Test.YtjcplblnapcfcaaGoA
set_option linter.unusedSimpArgs false
namespace Go.Gat
open Go.Conc

/-- The channel's block: no buffer; 's' values have gone through it. -/
def Chan (w : World) (c : Nat) (cl : Bool) : Prop := ∃ s, w.heap[c]? = some (.chan 0 #[] cl s s false)

/-- Who waits with which case at channel 'c', to send or to receive. -/
def Waits (gs : Array Goroutine) (c : Nat) (send : Bool) (j hk : Nat) : Prop :=
  ∃ g cs sh cc, gs[j]? = some g ∧ g.status = .blocked ∧ g.offers = some (cs, sh) ∧ cs[hk]? = some cc ∧ cc.chan = .chan (some c) ∧ cc.send.isSome = send

theorem mem_partners' {gs : Array Goroutine} {c : Nat} {send : Bool} {j hk : Nat} : (j, hk) ∈ partners gs c send ↔ Waits gs c send j hk := by
  unfold partners Waits
  simp only [List.mem_flatMap]
  constructor
  · rintro ⟨⟨g, i⟩, hm, hx⟩
    have hi : gs[i]? = some g := by
      have h1 : (g, i) ∈ gs.toList.zipIdx := by simpa using hm
      rw [List.mem_zipIdx_iff_getElem?] at h1
      simpa using h1
    dsimp only at hx
    split at hx
    · rename_i cs sh hst hof
      simp only [List.mem_map, List.mem_filter] at hx
      obtain ⟨⟨cc, k⟩, ⟨hm2, hc⟩, he⟩ := hx
      simp only [Prod.mk.injEq] at he
      obtain ⟨rfl, rfl⟩ := he
      have hk : cs[k]? = some cc := by
        have h1 : (cc, k) ∈ cs.toList.zipIdx := by simpa using hm2
        rw [List.mem_zipIdx_iff_getElem?] at h1
        simpa using h1
      simp only [Bool.and_eq_true, beq_iff_eq] at hc
      refine ⟨g, cs, sh, cc, hi, hst, hof, hk, ?_, hc.1⟩
      have h2 := hc.2
      split at h2
      · rename_i r' hr
        rw [hr]
        simp only [beq_iff_eq] at h2
        rw [h2]
      · cases h2
    · simp at hx
  · rintro ⟨g, cs, sh, cc, hi, hst, hof, hk2, hch, hs⟩
    refine ⟨(g, j), ?_, ?_⟩
    · have : (g, j) ∈ gs.toList.zipIdx := by rw [List.mem_zipIdx_iff_getElem?]; simpa using hi
      simpa using this
    · dsimp only
      simp only [hst, hof]
      simp only [List.mem_map, List.mem_filter]
      refine ⟨(cc, hk), ⟨?_, ?_⟩, rfl⟩
      · have : (cc, hk) ∈ cs.toList.zipIdx := by rw [List.mem_zipIdx_iff_getElem?]; simpa using hk2
        simpa using this
      · simp [hch, hs]

/-- The case 'cc' can be carried out. -/
def Ready (w : World) (gs : Array Goroutine) (cc : CommCase) (way : Way) : Prop :=
  ∃ c cl, cc.chan = .chan (some c) ∧ Chan w c cl ∧
    ((∃ j hk, way = .partner j hk ∧ Waits gs c (!cc.send.isSome) j hk) ∨ (cc.send = none ∧ cl = true ∧ way = .closed))

/-- A case over a channel of ours. -/
def Ours (w : World) (cc : CommCase) : Prop := ∃ c cl, cc.chan = .chan (some c) ∧ Chan w c cl ∧ (cc.send.isSome = true → cl = false)

theorem ways_ours {w : World} {gs : Array Goroutine} {cc : CommCase} (h : Ours w cc) {way : Way} : way ∈ ways w gs cc → Ready w gs cc way := by
  obtain ⟨c, cl, hc, ⟨s, hch⟩, hcl⟩ := h
  intro hm
  unfold ways at hm
  simp only [hc, hch] at hm
  refine ⟨c, cl, hc, ⟨s, hch⟩, ?_⟩
  cases hs : cc.send with
  | some v =>
    rw [hs] at hm hcl
    obtain rfl := hcl rfl
    simp only [Bool.false_eq_true, if_false] at hm
    split at hm
    · simp at hm
    · simp only [List.mem_map] at hm
      obtain ⟨⟨j, hk⟩, hj, rfl⟩ := hm
      exact .inl ⟨j, hk, rfl, mem_partners'.1 hj⟩
  | none =>
    rw [hs] at hm
    simp only [Array.size_empty, gt_iff_lt, Nat.lt_irrefl, if_false] at hm
    split at hm
    · cases cl with
      | true => simp at hm; exact .inr ⟨rfl, rfl, hm⟩
      | false => simp at hm
    · simp only [List.mem_map] at hm
      obtain ⟨⟨j, hk⟩, hj, rfl⟩ := hm
      exact .inl ⟨j, hk, rfl, mem_partners'.1 hj⟩

/-- Nobody is there for the case. -/
theorem ways_none {w : World} {gs : Array Goroutine} {cc : CommCase} (h : Ours w cc) (hw : ways w gs cc = []) : ∃ c, cc.chan = .chan (some c) ∧ Chan w c false ∧ ∀ j hk, ¬ Waits gs c (!cc.send.isSome) j hk := by
  obtain ⟨c, cl, hc, ⟨s, hch⟩, hcl⟩ := h
  unfold ways at hw
  simp only [hc, hch] at hw
  cases hs : cc.send with
  | some v =>
    rw [hs] at hw hcl
    obtain rfl := hcl rfl
    simp only [Bool.false_eq_true, if_false] at hw
    refine ⟨c, hc, ⟨s, hch⟩, fun j hk hx => ?_⟩
    have hx := mem_partners'.2 hx
    split at hw
    · rename_i hps; rw [show (!(some v).isSome) = false from rfl, hps] at hx; simp at hx
    · rename_i ps hne _
      simp only [List.map_eq_nil_iff] at hw
      rw [show (!(some v).isSome) = false from rfl, hw] at hx; simp at hx
  | none =>
    rw [hs] at hw
    simp only [Array.size_empty, gt_iff_lt, Nat.lt_irrefl, if_false] at hw
    split at hw
    · rename_i hps
      cases cl with
      | true => simp at hw
      | false => exact ⟨c, hc, ⟨s, hch⟩, fun j hk hx => by have hx := mem_partners'.2 hx; rw [show (!(none : Option Value).isSome) = true from rfl, hps] at hx; simp at hx⟩
    · simp only [List.map_eq_nil_iff] at hw
      rename_i hne
      exact absurd hw hne

/-! ### what the tape is asked -/
theorem run_select (P : Program) {n : Nat} (hn : 0 < n) (w : World) : ∃ a d, a < n ∧ (choose (.select n)).run P w = .ok a (w.at d) := by
  by_cases hf : (Question.select n).forced = true
  · exact ⟨0, w.drawn, hn, by simp [choose, Sem.run, hf, World.at]⟩
  · refine ⟨w.tape w.drawn (.select n) % n, w.drawn + 1, Nat.mod_lt _ hn, ?_⟩
    simp [choose, Sem.run, hf, World.at, Question.cut]
theorem run_which (P : Program) (s : String) {n : Nat} (hn : 0 < n) (w : World) : ∃ a d, a < n ∧ (choose (.extern s n)).run P w = .ok a (w.at d) := by
  by_cases hf : (Question.extern s n).forced = true
  · exact ⟨0, w.drawn, hn, by simp [choose, Sem.run, hf, World.at]⟩
  · refine ⟨w.tape w.drawn (.extern s n) % n, w.drawn + 1, Nat.mod_lt _ hn, ?_⟩
    simp [choose, Sem.run, hf, World.at, Question.cut]
    omega
theorem run_pick (P : Program) {α : Type} {n : Nat} (hn : 0 < n) (s : String) (m : Nat → Nat) (hm : ∀ a, a < n → 0 < m a) (f : Nat → Nat → α) (w : World) :
    ∃ a b d, a < n ∧ b < m a ∧ (do let a ← choose (.select n); let b ← choose (.extern s (m a)); pure (f a b) : Sem α).run P w = .ok (f a b) (w.at d) := by
  obtain ⟨a, d, ha, h1⟩ := run_select P hn w
  obtain ⟨b, d', hb, h2⟩ := run_which P s (hm a ha) (w.at d)
  refine ⟨a, b, d', ha, hb, ?_⟩
  rw [Sem.run_bind, h1]
  show Sem.run P (choose (.extern s (m a)) >>= fun b => pure (f a b)) (w.at d) = _
  rw [Sem.run_bind, h2]
  rfl

/-! ### the law -/
section
variable {P : Program}

/-- The operations of a meeting: 'x' sends, 'y' receives. -/
def meetOps (x y : MemAct → MemOp) (c s : Nat) : Array MemOp := #[x (.send c s), y (.recv c s 0), x (.sendDone c s), y (.recvDone c s)]
def opOf (i : Nat) (fr : Frame) (a : MemAct) : MemOp := { g := i, fn := fr.fn, pos := fr.place, act := a }

/-- The ways in which a blocking communication over channels of ours comes out. -/
inductive Out (P : Program) (r : Rest) (gs : Array Goroutine) (i : Nat) (g : Goroutine) (cs : Array CommCase) (sh : CommShape) (w : World) : Stepped × Array MemOp → Prop
  | park : (∀ cc ∈ cs, ∃ c, cc.chan = .chan (some c) ∧ Chan w c false ∧ ∀ j hk, ¬ Waits gs c (!cc.send.isSome) j hk) →
      Out P r gs i g cs sh w (.next { world := w, gs := gs.setIfInBounds i { g with status := .blocked, offers := some (cs, sh) }, rest := r }, #[])
  | shut (k c d : Nat) (cc : CommCase) : cs[k]? = some cc → cc.chan = .chan (some c) → Chan w c true → cc.send = none →
      Out P r gs i g cs sh w (.next { world := w.at d, gs := gs.setIfInBounds i (g.finishComm P cs sh k cc.zero false), rest := r }, #[opOf i g.frame (.recvClosed c)])
  | send (k c d s j hk : Nat) (cc : CommCase) (v : Value) : cs[k]? = some cc → cc.chan = .chan (some c) → cc.send = some v → w.heap[c]? = some (.chan 0 #[] false s s false) → Waits gs c false j hk →
      Out P r gs i g cs sh w (.next { world := (w.at d).setChan c 0 #[] false (s + 1) (s + 1) false, gs := (finishPartner P gs j hk v).setIfInBounds i (g.finishComm P cs sh k undef false), rest := r },
        meetOps (opOf i g.frame) (opOf j (gs.getD j default).frame) c s)
  | recv (k c d s j hk : Nat) (cl : Bool) (cc : CommCase) : cs[k]? = some cc → cc.chan = .chan (some c) → cc.send = none → w.heap[c]? = some (.chan 0 #[] cl s s false) → Waits gs c true j hk →
      Out P r gs i g cs sh w (.next { world := (w.at d).setChan c 0 #[] cl (s + 1) (s + 1) false, gs := (finishPartner P gs j hk undef).setIfInBounds i (g.finishComm P cs sh k (offeredValue gs j hk) true), rest := r },
        meetOps (opOf j (gs.getD j default).frame) (opOf i g.frame) c s)

theorem comm_out {r : Rest} {gs : Array Goroutine} {i : Nat} {g : Goroutine} {cs : Array CommCase} {sh : CommShape} {w : World} (hours : ∀ cc ∈ cs, Ours w cc) (hr : r.timers = #[]) : Out P r gs i g cs sh w (communicate P r gs i g cs true sh w) := by
  have hill : cs.any (illMade w) = false := any_ill fun cc hcc => by
    obtain ⟨c, cl, h1, ⟨s, h2⟩, _⟩ := hours cc hcc
    simp [illMade, h1, h2]
  unfold communicate
  dsimp only
  split
  · rename_i h
    exact absurd (h.symm.trans hill) (by simp)
  generalize hL : List.filter (fun x : Nat × CommCase × List Way => !x.2.2.isEmpty) (List.map (fun x : CommCase × Nat => (x.2, x.1, ways w gs x.1)) cs.zipIdx.toList) = L
  by_cases hready : L.isEmpty = true
  · rw [if_pos hready, if_pos rfl]
    have hwait : waitingAt r cs w = some w := by
      unfold waitingAt
      rw [if_neg]
      unfold timerAhead
      rw [Bool.not_eq_true, Array.any_eq_false]
      intro k hk
      split
      · rw [hr]; simp
      · simp
    rw [hwait]
    refine .park fun cc hcc => ways_none (hours cc hcc) ?_
    obtain ⟨k, hk, e⟩ := Array.mem_iff_getElem.1 hcc
    apply Classical.byContradiction
    intro hne
    have hm : (k, cc, ways w gs cc) ∈ L := by
      rw [← hL, List.mem_filter, List.mem_map]
      refine ⟨⟨(cc, k), ?_, rfl⟩, ?_⟩
      · have : (cc, k) ∈ cs.toList.zipIdx := by rw [List.mem_zipIdx_iff_getElem?]; simp [Array.getElem?_eq_getElem hk, e]
        simpa using this
      · simpa using hne
    rw [List.isEmpty_iff] at hready
    rw [hready] at hm
    simp at hm
  · rw [if_neg hready]
    have hlen : 0 < L.length := by
      cases L with
      | nil => simp at hready
      | cons x L => simp
    have hmem : ∀ (a : Nat) (x : Nat × CommCase × List Way), L[a]? = some x → ∃ k cc, cs[k]? = some cc ∧ x = (k, cc, ways w gs cc) ∧ ways w gs cc ≠ [] := by
      intro a x hx
      have hm := List.mem_of_getElem? hx
      rw [← hL, List.mem_filter, List.mem_map] at hm
      obtain ⟨⟨⟨cc, k⟩, hk, rfl⟩, hne⟩ := hm
      have h1 : (cc, k) ∈ cs.toList.zipIdx := by simpa using hk
      rw [List.mem_zipIdx_iff_getElem?] at h1
      exact ⟨k, cc, by simpa using h1, rfl, by simpa using hne⟩
    have hget : ∀ a : Nat, a < L.length → L[a]? = some (L.getD a (0, default, [])) := fun a ha => by
      rw [List.getD_eq_getElem?_getD, List.getElem?_eq_getElem ha]; rfl
    obtain ⟨a, b, d, ha, hb, hpick⟩ := run_pick P hlen "which waiting goroutine is the partner" (fun a => (L.getD a (0, default, [])).2.2.length) (fun a ha => by
      obtain ⟨k, cc, _, e, hne⟩ := hmem a _ (hget a ha)
      rw [e]
      exact List.length_pos_iff.2 hne) (fun a b => ((L.getD a (0, default, [])).1, (L.getD a (0, default, [])).2.1, (L.getD a (0, default, [])).2.2.getD b .closed)) w
    rw [hpick]
    obtain ⟨k, cc, hk, e, hne⟩ := hmem a _ (hget a ha)
    rw [e] at hb ⊢
    dsimp only at hb ⊢
    have hcc : cc ∈ cs := Array.mem_of_getElem? hk
    obtain ⟨way, hway⟩ : ∃ way, (ways w gs cc)[b]? = some way := ⟨_, List.getElem?_eq_getElem hb⟩
    have hgw : (ways w gs cc).getD b .closed = way := by rw [List.getD_eq_getElem?_getD, hway]; rfl
    rw [hgw]
    obtain ⟨c, cl, hch, ⟨s, hs⟩, hcase⟩ := ways_ours (hours cc hcc) (List.mem_of_getElem? hway)
    have hat : (w.at d).heap = w.heap := rfl
    rcases hcase with ⟨j, hk', rfl, hW⟩ | ⟨hsn, rfl, rfl⟩
    · cases hv : cc.send with
      | some v =>
        rw [hv] at hW
        obtain ⟨_, cl', hch', ⟨s', hs'⟩, hcl'⟩ := hours cc hcc
        rw [hch] at hch'
        obtain rfl : c = _ := by simpa using hch'
        rw [hs] at hs'
        obtain rfl : cl = false := by
          have := hcl' (by rw [hv]; rfl)
          simp only [Option.some.injEq, Obj.chan.injEq] at hs'
          rw [hs'.2.2.1]; exact this
        simp only [hch, hat, hs]
        exact .send k c d s j hk' cc v hk hch hv hs hW
      | none =>
        rw [hv] at hW
        simp only [hch, hat, hs]
        exact .recv k c d s j hk' cl cc hk hch hv hs hW
    · simp only [hch]
      exact .shut k c d cc hk hch ⟨s, hs⟩ hsn
end
end Go.Gat
