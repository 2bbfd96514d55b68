/- Ro: a part of the proofs about the tuple space and its bytes. -/
import Derived.Test.YtilfbkhbjkjicaaTg
set_option linter.all false
set_option maxRecDepth 100000
set_option maxHeartbeats 0
namespace Go.Abs
open Go
open Go.Proofs.Try (prog)
def RS.Of (s : RS) (B : List UInt8) : Prop := s.l = B.drop (B.length - s.l.length) ∧ s.l.length ≤ B.length
theorem RS.Of.num {s : RS} {B : List UInt8} (h : s.Of B) (n : Nat) : (s.num n).2.Of B := RS.num_suf h.1 h.2 n
theorem RS.Of.text {s : RS} {B : List UInt8} (h : s.Of B) (m : Int) : (s.text m).2.Of B := RS.raw_suf (RS.num_suf h.1 h.2 4).1 (RS.num_suf h.1 h.2 4).2 _
theorem RS.Of.row {s : RS} {B : List UInt8} (h : s.Of B) : (ycj s).2.Of B := h.text 1000
theorem Rdr.of {H : List Entry} {kd kb : Nat} {B : List UInt8} {s : RS} (r : Rdr H kd kb B s) : s.Of B := ⟨r.suf, r.len⟩
theorem Rdr.to {H : List Entry} {kd kb : Nat} {B : List UInt8} {s s' : RS} (r : Rdr H kd kb B s) (h : s'.Of B) (l : List Entry) : Rdr (H.set kd (rdE kb B s') ++ l) kd kb B s' :=
  (r.set h.1 h.2).keep (fun e he => by rw [List.getElem?_append_left (zac he)]; exact he) (fun e he => by rw [List.getElem?_append_left (zac he)]; exact he)
theorem Rdr.at {H : List Entry} {kd kb : Nat} {B : List UInt8} {s s' : RS} (r : Rdr H kd kb B s) (h : s'.Of B) : Rdr (H.set kd (rdE kb B s')) kd kb B s' := r.set h.1 h.2
theorem Rdr.more {H : List Entry} {kd kb : Nat} {B : List UInt8} {s : RS} (r : Rdr H kd kb B s) (l : List Entry) : Rdr (H ++ l) kd kb B s :=
  r.keep (fun e he => by rw [List.getElem?_append_left (zac he)]; exact he) (fun e he => by rw [List.getElem?_append_left (zac he)]; exact he)
theorem Rdr.same {H H2 : List Entry} {kd kb : Nat} {B : List UInt8} {s : RS} (r : Rdr H kd kb B s) (h : ∀ k ∈ [kd, kb], H2[k]? = H[k]?) : Rdr H2 kd kb B s :=
  r.keep (fun e he => by rw [h kd (by simp)]; exact he) (fun e he => by rw [h kb (by simp)]; exact he)
theorem rowR_len (s : RS) : (ycj s).1.length ≤ 6 := by
  rw [ycj]
  cases h : qc7 (s.text 1000).1 with
  | none => simp
  | some l =>
    rw [qc7] at h
    split at h
    · rename_i hc
      cases h
      exact (zck hc.2).2.1
    · cases h
end Go.Abs
