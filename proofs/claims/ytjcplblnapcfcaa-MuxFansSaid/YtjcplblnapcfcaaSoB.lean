/-
  SORTING THE ITEMS: slices.SortFunc at Gather's closure, of a permutation of what the rows are.
-/
import Derived.Test.YtjcplblnapcfcaaSoA
import Derived.Test.YtjcplblnapcfcaaShelf
import Derived.Test.YtjcplblnapcfcaaWaG
import Derived.Sort.LotA
set_option linter.unusedSimpArgs false
namespace Go.Proofs.Ytjcplblnapcfcaa
open Go Go.Gat Go.Sort Go.Shelf

abbrev It := Int × Int × El
def enc3 (t : It) : List Value := [.int .i64 t.1, .int .i64 t.2.1, enc t.2.2]
def toItem (t : It) : Value := .agg (enc3 t).toArray
def tripsRow (k : Int) : Nat → List El → List It
  | _, [] => []
  | n, z :: zs => (k, (n : Int), z) :: tripsRow k (n + 1) zs
def tripsOf : Nat → List (List El) → List It
  | _, [] => []
  | k, zs :: rest => tripsRow k 0 zs ++ tripsOf (k + 1) rest

theorem items_trips (k : Int) : ∀ (zs : List El) (n : Nat), items k n (zs.map enc) = (tripsRow k n zs).map toItem
  | [], _ => rfl
  | z :: zs, n => by simp [items, tripsRow, items_trips k zs (n + 1), toItem, enc3]
theorem rowsOf_trips : ∀ (zss : List (List El)) (k : Nat), (rowsOf k zss).flatten = (tripsOf k zss).map toItem
  | [], _ => rfl
  | zs :: rest, k => by simp [rowsOf, tripsOf, items_trips, rowsOf_trips rest (k + 1)]
theorem flat_items (l : List It) : flat (l.map toItem) = l.flatMap enc3 := by
  simp [flat, List.flatMap_map, toItem, Value.cells]

def ltI (x y : It) : Prop := x.1 < y.1 ∨ (x.1 = y.1 ∧ x.2.1 < y.2.1)
theorem tripsRow_mem (k : Int) : ∀ (zs : List El) (n : Nat) (t : It), t ∈ tripsRow k n zs → t.1 = k ∧ (n : Int) ≤ t.2.1
  | [], _, _ => by simp [tripsRow]
  | z :: zs, n, t => by
    intro h
    rcases List.mem_cons.1 h with rfl | h
    · exact ⟨rfl, Int.le_refl _⟩
    · have := tripsRow_mem k zs (n + 1) t h
      exact ⟨this.1, by omega⟩
theorem tripsRow_sorted (k : Int) : ∀ (zs : List El) (n : Nat), (tripsRow k n zs).Pairwise ltI
  | [], _ => .nil
  | z :: zs, n => by
    refine .cons (fun t ht => .inr ?_) (tripsRow_sorted k zs (n + 1))
    have := tripsRow_mem k zs (n + 1) t ht
    exact ⟨this.1.symm, by simp only; omega⟩
theorem tripsOf_mem : ∀ (zss : List (List El)) (k : Nat) (t : It), t ∈ tripsOf k zss → (k : Int) ≤ t.1
  | [], _, _ => by simp [tripsOf]
  | zs :: rest, k, t => by
    intro h
    rcases List.mem_append.1 h with h | h
    · have := (tripsRow_mem k zs 0 t h).1; omega
    · have := tripsOf_mem rest (k + 1) t h; omega
theorem tripsOf_sorted : ∀ (zss : List (List El)) (k : Nat), (tripsOf k zss).Pairwise ltI
  | [], _ => .nil
  | zs :: rest, k => by
    refine List.pairwise_append.2 ⟨tripsRow_sorted k zs 0, tripsOf_sorted rest (k + 1), fun a ha b hb => .inl ?_⟩
    have h1 := (tripsRow_mem k zs 0 a ha).1
    have h2 := tripsOf_mem rest (k + 1) b hb
    omega

def cf3 (x y : It) : Int := orI (cmpI x.1 y.1) (cmpI x.2.1 y.2.1)
theorem lt3 (x y : It) : ltOf cf3 x y = true ↔ ltI x y := by
  unfold ltOf cf3 orI cmpI ltI
  simp only [decide_eq_true_eq]
  split <;> split <;> (try split) <;> (try split) <;> (try split) <;> constructor <;> intro h <;> omega
theorem lt3f (x y : It) : ltOf cf3 x y = false ↔ ¬ ltI x y := by rw [← lt3]; simp
theorem swo3 : SWO (ltOf cf3) where
  irrefl x := by rw [lt3f]; unfold ltI; omega
  trans x y z h1 h2 := by rw [lt3] at *; unfold ltI at *; omega
  ntrans x y z h1 h2 := by rw [lt3f] at *; unfold ltI at *; omega

theorem sorted_unique {l : List It} {d d' : Array It} (hl : l.Pairwise ltI) (hp : d.toList.Perm l) (h1 : PermIn 0 d.size d d') (h2 : SortedIn (ltOf cf3) 0 d.size d') : d' = l.toArray := by
  have hsz : d'.size = d.size := h1.1
  have hperm : d'.toList.Perm l := by
    have h3 : (d'.extract 0 d.size).toList.Perm (d.extract 0 d.size).toList := h1.2.2
    have e1 : d'.extract 0 d.size = d' := by rw [← hsz]; simp
    have e2 : d.extract 0 d.size = d := by simp
    rw [e1, e2] at h3
    exact h3.trans hp
  have hs : d'.toList.Pairwise (fun x y => ¬ ltI y x) := by
    rw [List.pairwise_iff_getElem]
    intro i j hi hj hij
    have := h2 i j (Nat.zero_le _) hij (by simp at hj; omega)
    rw [lt3f] at this
    rw [getElem!_pos d' i (by simpa using hi), getElem!_pos d' j (by simpa using hj)] at this
    simpa using this
  have hl' : l.Pairwise (fun x y => ¬ ltI y x) := hl.imp fun {a b} h => by unfold ltI at *; omega
  have huniq : ∀ a b, a ∈ l → b ∈ l → ¬ ltI a b → ¬ ltI b a → a = b := by
    clear hs hl' hperm hsz h1 h2 hp
    intro a b ha hb n1 n2
    induction hl with
    | nil => cases ha
    | @cons x l hx _ ih =>
      rcases List.mem_cons.1 ha with ha2 | ha2 <;> rcases List.mem_cons.1 hb with hb2 | hb2
      · rw [ha2, hb2]
      · exact absurd (hx b hb2) (ha2 ▸ n1)
      · exact absurd (hx a ha2) (hb2 ▸ n2)
      · exact ih ha2 hb2
  have := List.Perm.eq_of_pairwise (le := fun x y => ¬ ltI y x) (l₁ := d'.toList) (l₂ := l) (fun a b ha hb n1 n2 => huniq a b (hperm.mem_iff.1 ha) hb n2 n1) hs hl' hperm
  rw [← this]

theorem enc3_length (x : It) : (enc3 x).length = 3 := rfl
theorem enc3_one (x : It) : ∀ v ∈ enc3 x, v.oneCell' = true := by
  intro v hv
  simp only [enc3, enc, List.mem_cons, List.not_mem_nil, or_false] at hv
  rcases hv with rfl | rfl | rfl <;> rfl
theorem flat3_length (l : List It) : (l.flatMap enc3).length = l.length * 3 := by
  induction l with
  | nil => rfl
  | cons x l ih => rw [List.flatMap_cons, List.length_append, ih, enc3_length, List.length_cons]; omega
theorem flat3_get : ∀ (l : List It) (t : Nat) (_ : t < l.length * 3), (l.flatMap enc3)[t]! = (enc3 l[t / 3]!)[t % 3]!
  | [], t, h => by simp at h
  | x :: l, t, h => by
    rw [List.flatMap_cons]
    by_cases ht : t < 3
    · have e1 : t / 3 = 0 := by omega
      have e2 : t % 3 = t := by omega
      rw [e1, e2]
      simp only [List.getElem!_eq_getElem?_getD]
      rw [List.getElem?_append_left (by simpa [enc3] using ht)]
      simp
    · have h2 : t - 3 < l.length * 3 := by simp at h; omega
      have ih := flat3_get l (t - 3) h2
      have e1 : t / 3 = (t - 3) / 3 + 1 := by omega
      have e2 : t % 3 = (t - 3) % 3 := by omega
      rw [e1, e2]
      simp only [List.getElem!_eq_getElem?_getD] at ih ⊢
      rw [List.getElem?_append_right (by simp [enc3]; omega)]
      simpa [enc3_length] using ih
theorem flatK_eq (l : List It) : flatK enc3 3 l.toArray = (l.flatMap enc3).toArray := by
  refine ext_get! (by have := flat3_length l; simp only [flatK, List.size_toArray, Array.size_map, Array.size_range]; omega) fun t ht => ?_
  have ht' : t < l.length * 3 := by simpa [flatK] using ht
  rw [get_flatK enc3 3 _ t (by simpa using ht')]
  have := flat3_get l t ht'
  simpa using this.symm

theorem eg29 : ∀ args w, (callFunc 29 args).run Try.prog w = .ok (.enter 29 args) w := enters_of Try.func29 (by kernel_rfl) rfl

/-- What the sort leaves: the row in order; all else as it was. -/
structure Sorted (w : World) (out : Value) (B : Nat) (l : List It) (w' : World) : Prop where
  row : w'.ownsRow B 49 3 out l.length (l.flatMap enc3)
  size : w.heap.size ≤ w'.heap.size
  keep : ∀ b, b < w.heap.size → out.ownBlock ≠ some b → w'.heap[b]? = w.heap[b]?
  os : w'.os = w.os
  output : w'.output = w.output

theorem sort28 {l d : List It} (hp : d.Perm l) (hl : l.Pairwise ltI) {w : World} {B : Nat} {out : Value} (hown : w.ownsRow B 49 3 out d.length (d.flatMap enc3)) (hsz : d.length < 4611686018427387904) :
    Calls Try.prog 28 #[out, .func (.func 29) #[] #[]] w fun e w' => e = .returned (.tuple #[]) ∧ Sorted w out B l w' := by
  have hlen := hp.length_eq
  rcases hown.2 with ⟨rfl, h0⟩ | ⟨g, cap, cur, rfl, hbg, hg, hnc, hcm, hcs, htake⟩
  · have hS := AnyF.slices_SortFunc_none (P := Try.prog) (ρ := Try.sortI_ren) { Try.sortI with } none 0 (.func (.func 29) #[] #[]) w
    change Calls Try.prog 28 _ _ _ at hS
    refine hS.mono fun e w' ⟨he, hw⟩ => ⟨he, ?_⟩
    subst hw
    have : l = [] := List.eq_nil_of_length_eq_zero (by omega)
    subst this
    exact ⟨World.ownsRow_nil _ _ _ _, Nat.le_refl _, fun _ _ _ => rfl, rfl, rfl⟩
  · have hH : HoldsK enc3 3 w g 0 d.toArray := by
      unfold HoldsK
      rw [flatK_eq]
      intro j hj
      have hj' : j < d.length * 3 := by rw [List.size_toArray, flat3_length] at hj; exact hj
      have hjf : j < (d.flatMap enc3).length := by simpa using hj
      refine ⟨?_, by simp [World.frozen?, hg]⟩
      have e : (d.flatMap enc3)[j]? = cur[j]? := by
        rw [← htake, List.getElem?_take, if_pos hj']
        simp
      simp only [World.cell?, hg, Nat.zero_add, id]
      rw [← e, getElem!_pos (d.flatMap enc3).toArray j hj, List.getElem?_eq_getElem hjf]
      rfl
    have hblk : g < w.heap.size := (Array.getElem?_eq_some_iff.1 hg).1
    have hS := AnyQ.slices_SortFunc Try.sortI 3 agg49 size49 enc3 enc3_length enc3_one cf3 swo3 29 #[] g 0 cap d.toArray w eg29
      (fun _ _ _ _ x y => clo29 x.1 x.2.1 y.1 y.2.1 (enc x.2.2) (enc y.2.2) _) hH hblk (by simpa using hsz)
    change Calls Try.prog 28 _ _ _ at hS
    simp only [List.size_toArray] at hS
    refine hS.mono fun e w' ⟨he, d', n, os, h1, h2, hw⟩ => ⟨he, ?_⟩
    have hd' : d' = l.toArray := sorted_unique (d := d.toArray) hl (by simpa using hp) (by simpa using h1) (by simpa using h2)
    subst hd' hw
    unfold sortWorldK putRowK
    rw [flatK_eq]
    generalize hF : l.flatMap enc3 = F
    have hFl : F.length = d.length * 3 := by rw [← hF, flat3_length, hlen]
    have hg1 : (putRow id (Sort.ahead w n) g 0 F.toArray).heap[g]? = some (.cells (putCells id 0 F.toArray cur) 49 (0, 0)) := by
      simp only [putRow, mapBlock, Sort.heap_ahead]
      rw [Array.getElem?_modify, if_pos rfl, hg]
      rfl
    refine ⟨⟨by rw [hF, hFl, hlen], .inr ⟨g, cap, putCells id 0 F.toArray cur, by rw [hlen], hbg, ?_, by omega, hcm, by simp [putCells, hcs], ?_⟩⟩, by simp [grow], fun b hb hne => ?_, rfl, rfl⟩
    · rw [heap_grow_old _ _ (by simpa using hblk)]
      exact hg1
    · apply List.ext_getElem?
      intro t
      rw [List.getElem?_take]
      by_cases ht : t < l.length * 3
      · rw [if_pos ht]
        have h3 : t < F.length := by omega
        have h4 : t < cur.size := by rw [hcs]; omega
        rw [hF]
        simp [putCells, h3, h4]
      · rw [if_neg ht, hF, List.getElem?_eq_none (by omega)]
    · have hbg' : b ≠ g := fun e => hne (by simp [Value.ownBlock, e])
      rw [heap_grow_old _ _ (by simpa using hb)]
      simp only [putRow, mapBlock, Sort.heap_ahead]
      rw [Array.getElem?_modify, if_neg (Ne.symm hbg')]
end Go.Proofs.Ytjcplblnapcfcaa
