/- PART of the proof of CallsKnown: A region whose order is open: whatever the order, it comes to the same. No condition. -/
import Derived.Test.YtecebpjfidpchaaGreatU14
/-! A region whose order is open: whatever the order, it comes to the same. -/
namespace Go.Abs

mutual
theorem Bt.same_eq : ∀ (n : Nat) (a b : Bt), Bt.same n a b = true → a = b
  | n + 1, .not a, .not b, h => by simp only [Bt.same] at h; rw [Bt.same_eq n a b h]
  | n + 1, .and a b, .and c d, h => by simp only [Bt.same, Bool.and_eq_true] at h; rw [Bt.same_eq n a c h.1, Bt.same_eq n b d h.2]
  | n + 1, .or a b, .or c d, h => by simp only [Bt.same, Bool.and_eq_true] at h; rw [Bt.same_eq n a c h.1, Bt.same_eq n b d h.2]
  | n + 1, .xor a b, .xor c d, h => by simp only [Bt.same, Bool.and_eq_true] at h; rw [Bt.same_eq n a c h.1, Bt.same_eq n b d h.2]
  | n + 1, .sum a b, .sum c d, h => by simp only [Bt.same, Bool.and_eq_true] at h; rw [Bt.sames_eq n a c h.1, Bt.sames_eq n b d h.2]
  | 0, a, b, h => by cases a <;> cases b <;> simp_all [Bt.same]
  | n + 1, .z, b, h => by cases b <;> simp_all [Bt.same]
  | n + 1, .o, b, h => by cases b <;> simp_all [Bt.same]
  | n + 1, .v _ _, b, h => by cases b <;> simp_all [Bt.same]
  | n + 1, .not _, .z, h => by simp [Bt.same] at h
  | n + 1, .not _, .o, h => by simp [Bt.same] at h
  | n + 1, .not _, .v _ _, h => by simp [Bt.same] at h
  | n + 1, .not _, .and _ _, h => by simp [Bt.same] at h
  | n + 1, .not _, .or _ _, h => by simp [Bt.same] at h
  | n + 1, .not _, .xor _ _, h => by simp [Bt.same] at h
  | n + 1, .not _, .sum _ _, h => by simp [Bt.same] at h
  | n + 1, .and _ _, .z, h => by simp [Bt.same] at h
  | n + 1, .and _ _, .o, h => by simp [Bt.same] at h
  | n + 1, .and _ _, .v _ _, h => by simp [Bt.same] at h
  | n + 1, .and _ _, .not _, h => by simp [Bt.same] at h
  | n + 1, .and _ _, .or _ _, h => by simp [Bt.same] at h
  | n + 1, .and _ _, .xor _ _, h => by simp [Bt.same] at h
  | n + 1, .and _ _, .sum _ _, h => by simp [Bt.same] at h
  | n + 1, .or _ _, .z, h => by simp [Bt.same] at h
  | n + 1, .or _ _, .o, h => by simp [Bt.same] at h
  | n + 1, .or _ _, .v _ _, h => by simp [Bt.same] at h
  | n + 1, .or _ _, .not _, h => by simp [Bt.same] at h
  | n + 1, .or _ _, .and _ _, h => by simp [Bt.same] at h
  | n + 1, .or _ _, .xor _ _, h => by simp [Bt.same] at h
  | n + 1, .or _ _, .sum _ _, h => by simp [Bt.same] at h
  | n + 1, .xor _ _, .z, h => by simp [Bt.same] at h
  | n + 1, .xor _ _, .o, h => by simp [Bt.same] at h
  | n + 1, .xor _ _, .v _ _, h => by simp [Bt.same] at h
  | n + 1, .xor _ _, .not _, h => by simp [Bt.same] at h
  | n + 1, .xor _ _, .and _ _, h => by simp [Bt.same] at h
  | n + 1, .xor _ _, .or _ _, h => by simp [Bt.same] at h
  | n + 1, .xor _ _, .sum _ _, h => by simp [Bt.same] at h
  | n + 1, .sum _ _, .z, h => by simp [Bt.same] at h
  | n + 1, .sum _ _, .o, h => by simp [Bt.same] at h
  | n + 1, .sum _ _, .v _ _, h => by simp [Bt.same] at h
  | n + 1, .sum _ _, .not _, h => by simp [Bt.same] at h
  | n + 1, .sum _ _, .and _ _, h => by simp [Bt.same] at h
  | n + 1, .sum _ _, .or _ _, h => by simp [Bt.same] at h
  | n + 1, .sum _ _, .xor _ _, h => by simp [Bt.same] at h
theorem Bt.sames_eq : ∀ (n : Nat) (a b : List Bt), Bt.sames n a b = true → a = b
  | n + 1, a :: as, b :: bs, h => by
    simp only [Bt.sames, Bool.and_eq_true] at h
    rw [Bt.same_eq n a b h.1, Bt.sames_eq n as bs h.2]
  | 0, [], [], _ => rfl
  | n + 1, [], [], _ => rfl
  | 0, a :: as, b, h => by cases b <;> simp [Bt.sames] at h
  | 0, [], b :: bs, h => by simp [Bt.sames] at h
  | n + 1, [], b :: bs, h => by simp [Bt.sames] at h
  | n + 1, a :: as, [], h => by simp [Bt.sames] at h
end


theorem Sy.same_eq : ∀ (n : Nat) (a b : Sy), Sy.same n a b = true → a = b
  | n + 1, .op o a1 a2, .op p b1 b2, h => by
    simp only [Sy.same, Bool.and_eq_true, decide_eq_true_eq] at h
    rw [h.1.1, Sy.same_eq n a1 b1 h.1.2, Sy.same_eq n a2 b2 h.2]
  | n + 1, .cv k a, .cv j b, h => by
    simp only [Sy.same, Bool.and_eq_true, decide_eq_true_eq] at h
    rw [h.1, Sy.same_eq n a b h.2]
  | 0, .w a, .w b, h => by simp only [Sy.same] at h; rw [Bt.sames_eq _ a b h]
  | 0, .lin m l, .lin n r, h => by simp only [Sy.same, Bool.and_eq_true, decide_eq_true_eq] at h; rw [h.1, h.2]
  | 0, .c a, .c b, h => by simp only [Sy.same, decide_eq_true_eq] at h; rw [h]
  | n + 1, .w a, .w b, h => by simp only [Sy.same] at h; rw [Bt.sames_eq _ a b h]
  | k + 1, .lin m l, .lin n r, h => by simp only [Sy.same, Bool.and_eq_true, decide_eq_true_eq] at h; rw [h.1, h.2]
  | n + 1, .c a, .c b, h => by simp only [Sy.same, decide_eq_true_eq] at h; rw [h]
  | 0, .w _, .lin _ _, h => by simp [Sy.same] at h
  | n + 1, .w _, .lin _ _, h => by simp [Sy.same] at h
  | 0, .w _, .c _, h => by simp [Sy.same] at h
  | n + 1, .w _, .c _, h => by simp [Sy.same] at h
  | 0, .w _, .op _ _ _, h => by simp [Sy.same] at h
  | n + 1, .w _, .op _ _ _, h => by simp [Sy.same] at h
  | 0, .w _, .cv _ _, h => by simp [Sy.same] at h
  | n + 1, .w _, .cv _ _, h => by simp [Sy.same] at h
  | 0, .lin _ _, .w _, h => by simp [Sy.same] at h
  | n + 1, .lin _ _, .w _, h => by simp [Sy.same] at h
  | 0, .lin _ _, .c _, h => by simp [Sy.same] at h
  | n + 1, .lin _ _, .c _, h => by simp [Sy.same] at h
  | 0, .lin _ _, .op _ _ _, h => by simp [Sy.same] at h
  | n + 1, .lin _ _, .op _ _ _, h => by simp [Sy.same] at h
  | 0, .lin _ _, .cv _ _, h => by simp [Sy.same] at h
  | n + 1, .lin _ _, .cv _ _, h => by simp [Sy.same] at h
  | 0, .c _, .w _, h => by simp [Sy.same] at h
  | n + 1, .c _, .w _, h => by simp [Sy.same] at h
  | 0, .c _, .lin _ _, h => by simp [Sy.same] at h
  | n + 1, .c _, .lin _ _, h => by simp [Sy.same] at h
  | 0, .c _, .op _ _ _, h => by simp [Sy.same] at h
  | n + 1, .c _, .op _ _ _, h => by simp [Sy.same] at h
  | 0, .c _, .cv _ _, h => by simp [Sy.same] at h
  | n + 1, .c _, .cv _ _, h => by simp [Sy.same] at h
  | 0, .op _ _ _, .w _, h => by simp [Sy.same] at h
  | n + 1, .op _ _ _, .w _, h => by simp [Sy.same] at h
  | 0, .op _ _ _, .lin _ _, h => by simp [Sy.same] at h
  | n + 1, .op _ _ _, .lin _ _, h => by simp [Sy.same] at h
  | 0, .op _ _ _, .c _, h => by simp [Sy.same] at h
  | n + 1, .op _ _ _, .c _, h => by simp [Sy.same] at h
  | 0, .op _ _ _, .cv _ _, h => by simp [Sy.same] at h
  | n + 1, .op _ _ _, .cv _ _, h => by simp [Sy.same] at h
  | 0, .cv _ _, .w _, h => by simp [Sy.same] at h
  | n + 1, .cv _ _, .w _, h => by simp [Sy.same] at h
  | 0, .cv _ _, .lin _ _, h => by simp [Sy.same] at h
  | n + 1, .cv _ _, .lin _ _, h => by simp [Sy.same] at h
  | 0, .cv _ _, .c _, h => by simp [Sy.same] at h
  | n + 1, .cv _ _, .c _, h => by simp [Sy.same] at h
  | 0, .cv _ _, .op _ _ _, h => by simp [Sy.same] at h
  | n + 1, .cv _ _, .op _ _ _, h => by simp [Sy.same] at h
  | 0, .op _ _ _, .op _ _ _, h => by simp [Sy.same] at h
  | 0, .cv _ _, .cv _ _, h => by simp [Sy.same] at h

mutual
theorem V.same_eq : ∀ (n : Nat) (a b : V), V.same n a b = true → a = b
  | n + 1, .fn f a b, .fn g c d, h => by
    simp only [V.same, Bool.and_eq_true, decide_eq_true_eq] at h
    rw [h.1.1, V.sames_eq n a c h.1.2, V.sames_eq n b d h.2]
  | n + 1, .iface t v, .iface u w, h => by
    simp only [V.same, Bool.and_eq_true, decide_eq_true_eq] at h
    rw [h.1, V.same_eq n v w h.2]
  | n + 1, .agg a, .agg b, h => by simp only [V.same] at h; rw [V.sames_eq n a b h]
  | n + 1, .tup a, .tup b, h => by simp only [V.same] at h; rw [V.sames_eq n a b h]
  | 0, .undef, b, h => by cases b <;> simp_all [V.same]
  | 0, .bool _, b, h => by cases b <;> simp_all [V.same]
  | 0, .int _ _, b, h => by cases b <;> simp_all [V.same]
  | 0, .str _, b, h => by cases b <;> simp_all [V.same]
  | 0, .ptr _ _, b, h => by cases b <;> simp_all [V.same]
  | 0, .nil, b, h => by cases b <;> simp_all [V.same]
  | 0, .slice _ _ _ _ _, b, h => by cases b <;> simp_all [V.same]
  | 0, .snil, b, h => by cases b <;> simp_all [V.same]
  | 0, .map _, b, h => by cases b <;> simp_all [V.same]
  | 0, .mnil, b, h => by cases b <;> simp_all [V.same]
  | 0, .fn _ _ _, .undef, h => by simp [V.same] at h
  | 0, .fn _ _ _, .bool _, h => by simp [V.same] at h
  | 0, .fn _ _ _, .int _ _, h => by simp [V.same] at h
  | 0, .fn _ _ _, .str _, h => by simp [V.same] at h
  | 0, .fn _ _ _, .ptr _ _, h => by simp [V.same] at h
  | 0, .fn _ _ _, .nil, h => by simp [V.same] at h
  | 0, .fn _ _ _, .slice _ _ _ _ _, h => by simp [V.same] at h
  | 0, .fn _ _ _, .snil, h => by simp [V.same] at h
  | 0, .fn _ _ _, .map _, h => by simp [V.same] at h
  | 0, .fn _ _ _, .mnil, h => by simp [V.same] at h
  | 0, .fn _ _ _, .fn _ _ _, h => by simp [V.same] at h
  | 0, .fn _ _ _, .fnil, h => by simp [V.same] at h
  | 0, .fn _ _ _, .iface _ _, h => by simp [V.same] at h
  | 0, .fn _ _ _, .inil, h => by simp [V.same] at h
  | 0, .fn _ _ _, .agg _, h => by simp [V.same] at h
  | 0, .fn _ _ _, .tup _, h => by simp [V.same] at h
  | 0, .fn _ _ _, .sym _ _, h => by simp [V.same] at h
  | 0, .fn _ _ _, .any, h => by simp [V.same] at h
  | 0, .fnil, b, h => by cases b <;> simp_all [V.same]
  | 0, .iface _ _, .undef, h => by simp [V.same] at h
  | 0, .iface _ _, .bool _, h => by simp [V.same] at h
  | 0, .iface _ _, .int _ _, h => by simp [V.same] at h
  | 0, .iface _ _, .str _, h => by simp [V.same] at h
  | 0, .iface _ _, .ptr _ _, h => by simp [V.same] at h
  | 0, .iface _ _, .nil, h => by simp [V.same] at h
  | 0, .iface _ _, .slice _ _ _ _ _, h => by simp [V.same] at h
  | 0, .iface _ _, .snil, h => by simp [V.same] at h
  | 0, .iface _ _, .map _, h => by simp [V.same] at h
  | 0, .iface _ _, .mnil, h => by simp [V.same] at h
  | 0, .iface _ _, .fn _ _ _, h => by simp [V.same] at h
  | 0, .iface _ _, .fnil, h => by simp [V.same] at h
  | 0, .iface _ _, .iface _ _, h => by simp [V.same] at h
  | 0, .iface _ _, .inil, h => by simp [V.same] at h
  | 0, .iface _ _, .agg _, h => by simp [V.same] at h
  | 0, .iface _ _, .tup _, h => by simp [V.same] at h
  | 0, .iface _ _, .sym _ _, h => by simp [V.same] at h
  | 0, .iface _ _, .any, h => by simp [V.same] at h
  | 0, .inil, b, h => by cases b <;> simp_all [V.same]
  | 0, .agg _, .undef, h => by simp [V.same] at h
  | 0, .agg _, .bool _, h => by simp [V.same] at h
  | 0, .agg _, .int _ _, h => by simp [V.same] at h
  | 0, .agg _, .str _, h => by simp [V.same] at h
  | 0, .agg _, .ptr _ _, h => by simp [V.same] at h
  | 0, .agg _, .nil, h => by simp [V.same] at h
  | 0, .agg _, .slice _ _ _ _ _, h => by simp [V.same] at h
  | 0, .agg _, .snil, h => by simp [V.same] at h
  | 0, .agg _, .map _, h => by simp [V.same] at h
  | 0, .agg _, .mnil, h => by simp [V.same] at h
  | 0, .agg _, .fn _ _ _, h => by simp [V.same] at h
  | 0, .agg _, .fnil, h => by simp [V.same] at h
  | 0, .agg _, .iface _ _, h => by simp [V.same] at h
  | 0, .agg _, .inil, h => by simp [V.same] at h
  | 0, .agg _, .agg _, h => by simp [V.same] at h
  | 0, .agg _, .tup _, h => by simp [V.same] at h
  | 0, .agg _, .sym _ _, h => by simp [V.same] at h
  | 0, .agg _, .any, h => by simp [V.same] at h
  | 0, .tup _, .undef, h => by simp [V.same] at h
  | 0, .tup _, .bool _, h => by simp [V.same] at h
  | 0, .tup _, .int _ _, h => by simp [V.same] at h
  | 0, .tup _, .str _, h => by simp [V.same] at h
  | 0, .tup _, .ptr _ _, h => by simp [V.same] at h
  | 0, .tup _, .nil, h => by simp [V.same] at h
  | 0, .tup _, .slice _ _ _ _ _, h => by simp [V.same] at h
  | 0, .tup _, .snil, h => by simp [V.same] at h
  | 0, .tup _, .map _, h => by simp [V.same] at h
  | 0, .tup _, .mnil, h => by simp [V.same] at h
  | 0, .tup _, .fn _ _ _, h => by simp [V.same] at h
  | 0, .tup _, .fnil, h => by simp [V.same] at h
  | 0, .tup _, .iface _ _, h => by simp [V.same] at h
  | 0, .tup _, .inil, h => by simp [V.same] at h
  | 0, .tup _, .agg _, h => by simp [V.same] at h
  | 0, .tup _, .tup _, h => by simp [V.same] at h
  | 0, .tup _, .sym _ _, h => by simp [V.same] at h
  | 0, .tup _, .any, h => by simp [V.same] at h
  | 0, .any, b, h => by cases b <;> simp_all [V.same]
  | 0, .sym k a, b, h => by
    cases b <;> simp only [V.same] at h <;> (try (simp at h; done))
    simp only [Bool.and_eq_true, decide_eq_true_eq] at h
    rw [h.1, Sy.same_eq _ _ _ h.2]
  | n + 1, .undef, b, h => by cases b <;> simp_all [V.same]
  | n + 1, .bool _, b, h => by cases b <;> simp_all [V.same]
  | n + 1, .int _ _, b, h => by cases b <;> simp_all [V.same]
  | n + 1, .str _, b, h => by cases b <;> simp_all [V.same]
  | n + 1, .ptr _ _, b, h => by cases b <;> simp_all [V.same]
  | n + 1, .nil, b, h => by cases b <;> simp_all [V.same]
  | n + 1, .slice _ _ _ _ _, b, h => by cases b <;> simp_all [V.same]
  | n + 1, .snil, b, h => by cases b <;> simp_all [V.same]
  | n + 1, .map _, b, h => by cases b <;> simp_all [V.same]
  | n + 1, .mnil, b, h => by cases b <;> simp_all [V.same]
  | n + 1, .fn _ _ _, .undef, h => by simp [V.same] at h
  | n + 1, .fn _ _ _, .bool _, h => by simp [V.same] at h
  | n + 1, .fn _ _ _, .int _ _, h => by simp [V.same] at h
  | n + 1, .fn _ _ _, .str _, h => by simp [V.same] at h
  | n + 1, .fn _ _ _, .ptr _ _, h => by simp [V.same] at h
  | n + 1, .fn _ _ _, .nil, h => by simp [V.same] at h
  | n + 1, .fn _ _ _, .slice _ _ _ _ _, h => by simp [V.same] at h
  | n + 1, .fn _ _ _, .snil, h => by simp [V.same] at h
  | n + 1, .fn _ _ _, .map _, h => by simp [V.same] at h
  | n + 1, .fn _ _ _, .mnil, h => by simp [V.same] at h
  | n + 1, .fn _ _ _, .fnil, h => by simp [V.same] at h
  | n + 1, .fn _ _ _, .iface _ _, h => by simp [V.same] at h
  | n + 1, .fn _ _ _, .inil, h => by simp [V.same] at h
  | n + 1, .fn _ _ _, .agg _, h => by simp [V.same] at h
  | n + 1, .fn _ _ _, .tup _, h => by simp [V.same] at h
  | n + 1, .fn _ _ _, .sym _ _, h => by simp [V.same] at h
  | n + 1, .fn _ _ _, .any, h => by simp [V.same] at h
  | n + 1, .fnil, b, h => by cases b <;> simp_all [V.same]
  | n + 1, .iface _ _, .undef, h => by simp [V.same] at h
  | n + 1, .iface _ _, .bool _, h => by simp [V.same] at h
  | n + 1, .iface _ _, .int _ _, h => by simp [V.same] at h
  | n + 1, .iface _ _, .str _, h => by simp [V.same] at h
  | n + 1, .iface _ _, .ptr _ _, h => by simp [V.same] at h
  | n + 1, .iface _ _, .nil, h => by simp [V.same] at h
  | n + 1, .iface _ _, .slice _ _ _ _ _, h => by simp [V.same] at h
  | n + 1, .iface _ _, .snil, h => by simp [V.same] at h
  | n + 1, .iface _ _, .map _, h => by simp [V.same] at h
  | n + 1, .iface _ _, .mnil, h => by simp [V.same] at h
  | n + 1, .iface _ _, .fn _ _ _, h => by simp [V.same] at h
  | n + 1, .iface _ _, .fnil, h => by simp [V.same] at h
  | n + 1, .iface _ _, .inil, h => by simp [V.same] at h
  | n + 1, .iface _ _, .agg _, h => by simp [V.same] at h
  | n + 1, .iface _ _, .tup _, h => by simp [V.same] at h
  | n + 1, .iface _ _, .sym _ _, h => by simp [V.same] at h
  | n + 1, .iface _ _, .any, h => by simp [V.same] at h
  | n + 1, .inil, b, h => by cases b <;> simp_all [V.same]
  | n + 1, .agg _, .undef, h => by simp [V.same] at h
  | n + 1, .agg _, .bool _, h => by simp [V.same] at h
  | n + 1, .agg _, .int _ _, h => by simp [V.same] at h
  | n + 1, .agg _, .str _, h => by simp [V.same] at h
  | n + 1, .agg _, .ptr _ _, h => by simp [V.same] at h
  | n + 1, .agg _, .nil, h => by simp [V.same] at h
  | n + 1, .agg _, .slice _ _ _ _ _, h => by simp [V.same] at h
  | n + 1, .agg _, .snil, h => by simp [V.same] at h
  | n + 1, .agg _, .map _, h => by simp [V.same] at h
  | n + 1, .agg _, .mnil, h => by simp [V.same] at h
  | n + 1, .agg _, .fn _ _ _, h => by simp [V.same] at h
  | n + 1, .agg _, .fnil, h => by simp [V.same] at h
  | n + 1, .agg _, .iface _ _, h => by simp [V.same] at h
  | n + 1, .agg _, .inil, h => by simp [V.same] at h
  | n + 1, .agg _, .tup _, h => by simp [V.same] at h
  | n + 1, .agg _, .sym _ _, h => by simp [V.same] at h
  | n + 1, .agg _, .any, h => by simp [V.same] at h
  | n + 1, .tup _, .undef, h => by simp [V.same] at h
  | n + 1, .tup _, .bool _, h => by simp [V.same] at h
  | n + 1, .tup _, .int _ _, h => by simp [V.same] at h
  | n + 1, .tup _, .str _, h => by simp [V.same] at h
  | n + 1, .tup _, .ptr _ _, h => by simp [V.same] at h
  | n + 1, .tup _, .nil, h => by simp [V.same] at h
  | n + 1, .tup _, .slice _ _ _ _ _, h => by simp [V.same] at h
  | n + 1, .tup _, .snil, h => by simp [V.same] at h
  | n + 1, .tup _, .map _, h => by simp [V.same] at h
  | n + 1, .tup _, .mnil, h => by simp [V.same] at h
  | n + 1, .tup _, .fn _ _ _, h => by simp [V.same] at h
  | n + 1, .tup _, .fnil, h => by simp [V.same] at h
  | n + 1, .tup _, .iface _ _, h => by simp [V.same] at h
  | n + 1, .tup _, .inil, h => by simp [V.same] at h
  | n + 1, .tup _, .agg _, h => by simp [V.same] at h
  | n + 1, .tup _, .sym _ _, h => by simp [V.same] at h
  | n + 1, .tup _, .any, h => by simp [V.same] at h
  | n + 1, .any, b, h => by cases b <;> simp_all [V.same]
  | n + 1, .sym k a, b, h => by
    cases b <;> simp only [V.same] at h <;> (try (simp at h; done))
    simp only [Bool.and_eq_true, decide_eq_true_eq] at h
    rw [h.1, Sy.same_eq _ _ _ h.2]
theorem V.sames_eq : ∀ (n : Nat) (a b : List V), V.sames n a b = true → a = b
  | n + 1, a :: as, b :: bs, h => by
    simp only [V.sames, Bool.and_eq_true] at h
    rw [V.same_eq n a b h.1, V.sames_eq n as bs h.2]
  | 0, [], [], _ => rfl
  | n + 1, [], [], _ => rfl
  | 0, a :: as, b, h => by cases b <;> simp [V.sames] at h
  | 0, [], b :: bs, h => by simp [V.sames] at h
  | n + 1, [], b :: bs, h => by simp [V.sames] at h
  | n + 1, a :: as, [], h => by simp [V.sames] at h
end

theorem held_get {n : Nat} {g : Bool} {a v : V} : ∀ {k : Nat} {hist : List H}, held n g a v k hist = true → ∀ (r : Nat) σ, r < k → hist[r]? = some σ → loadV σ n g a = some v
  | 0, _, _, r, σ, hr, _ => by omega
  | k + 1, [], h, r, σ, hr, hσ => by simp at hσ
  | k + 1, s :: hist, h, r, σ, hr, hσ => by
    simp only [held, Bool.and_eq_true] at h
    cases r with
    | zero =>
      simp at hσ; subst hσ
      have h1 := h.1
      split at h1
      · rename_i u hu
        rw [V.same_eq _ _ _ h1] at hu; exact hu
      · simp at h1
    | succ r => exact held_get h.2 r σ (by omega) (by simpa using hσ)

section
variable {m : MT} {call : Call}

theorem ev1_put {o : Op} {t t' : T V} {σ σ' : H} (h : ev1 m call o t σ = some (.ok t' σ')) : ∃ v, t' = putd t o.dst v := by
  unfold ev1 at h
  split at h
  · simp at h
  split at h
  · split at h
    · simp at h; exact ⟨_, h.1.symm⟩
    · obtain ⟨r, _, e⟩ := map_some' h
      cases r with
      | ret v σ2 => simp [Rt.oc] at e; exact ⟨_, e.1⟩
      | pan v σ2 => simp [Rt.oc] at e
    · simp at h
    · simp at h
  · simp at h; exact ⟨_, h.1.symm⟩

/-- An operation in another frame that agrees on what it uses. -/
theorem ev1_congr {o : Op} {t t₂ t' : T V} {σ σ' : H} (ha : ∀ x, o.uses x = true → ev t (.t x) = ev t₂ (.t x)) (h : ev1 m call o t σ = some (.ok t' σ')) : ∃ v, t' = putd t o.dst v ∧ ev1 m call o t₂ σ = some (.ok (putd t₂ o.dst v) σ') := by
  unfold ev1 at h ⊢
  rw [← agree_unk ha, ← agree_wanted ha, ← step_congr m σ o.x (agree_opds ha)]
  split at h
  · simp at h
  rename_i hunk
  rw [if_neg hunk]
  split at h
  · rename_i hw
    rw [if_pos hw]
    split at h
    · rename_i v σ2 hst
      simp at h
      obtain ⟨rfl, rfl⟩ := h
      exact ⟨v, rfl, by simp⟩
    · rename_i f args σ2 hst
      obtain ⟨r, hc, e⟩ := map_some' h
      cases r with
      | ret v σ3 =>
        simp [Rt.oc] at e
        obtain ⟨rfl, rfl⟩ := e
        exact ⟨v, rfl, by simp [hc, Rt.oc]⟩
      | pan v σ3 => simp [Rt.oc] at e
    · simp at h
    · simp at h
  · rename_i hw
    rw [if_neg hw]
    simp at h
    obtain ⟨rfl, rfl⟩ := h
    exact ⟨.undef, rfl, rfl⟩
theorem ev1_congr_pan {o : Op} {t t₂ t' : T V} {σ σ' : H} {v : V} (ha : ∀ x, o.uses x = true → ev t (.t x) = ev t₂ (.t x)) (h : ev1 m call o t σ = some (.pan v t' σ')) : ev1 m call o t₂ σ = some (.pan v t₂ σ') := by
  unfold ev1 at h ⊢
  rw [← agree_unk ha, ← agree_wanted ha, ← step_congr m σ o.x (agree_opds ha)]
  split at h
  · simp at h
  rename_i hunk
  rw [if_neg hunk]
  split at h
  · rename_i hw
    rw [if_pos hw]
    split at h
    · simp at h
    · rename_i f args σ2 hst
      obtain ⟨r, hc, e⟩ := map_some' h
      cases r with
      | ret v σ3 => simp [Rt.oc] at e
      | pan v σ3 =>
        simp [Rt.oc] at e
        obtain ⟨rfl, rfl, rfl⟩ := e
        simp [hc, Rt.oc]
    · rename_i v2 σ2 hst
      simp at h
      obtain ⟨rfl, rfl, rfl⟩ := h
      simp
    · simp at h
  · simp at h

theorem evFl_put {base : Nat} {i : It} {t t' : T V} {σ σ' : H} {hist : List H} (h : evFl base i t σ hist = some (t', σ')) : ∃ v, t' = putd t i.o.dst v := by
  unfold evFl at h
  split at h
  · simp at h
  split at h
  · split at h
    · obtain ⟨v, _, e⟩ := map_some' h
      simp at e; exact ⟨_, e.1⟩
    · obtain ⟨v, _, e⟩ := map_some' h
      simp at e; exact ⟨_, e.1⟩
    · split at h
      · split at h
        · simp at h; exact ⟨_, h.1.symm⟩
        · simp at h
      · simp at h
    · simp at h
  · simp at h; exact ⟨_, h.1.symm⟩

/-- Where our run of a region panics: the place, the operation, the value, memory behind it. -/
abbrev Pn := Option (Nat × Nat × V × H)
/-- Does our run come to an item? -/
def Live (pn : Pn) (p : Nat) (i : It) : Prop := match pn with
  | none => True
  | some (pp, k, _, _) => p < pp ∨ (pp < p ∧ i.heavy = false ∧ i.anc.testBit k = false)

/-- Our run of the region, state by state. -/
structure Runs (m : MT) (call : Call) (base : Nat) (its : List It) (pn : Pn) (st : Nat → T V × H) (hs : Nat → List H) : Prop where
  light : ∀ (p : Nat) i, its[p]? = some i → Live pn p i → i.heavy = false → evFl base i (st p).1 (st p).2 (hs p) = some (st (p + 1))
  hard : ∀ (p : Nat) i, its[p]? = some i → Live pn p i → i.heavy = true → ev1 m call i.o (st p).1 (st p).2 = some (.ok (st (p + 1)).1 (st (p + 1)).2)
  dead : ∀ (p : Nat) i, its[p]? = some i → ¬ Live pn p i → st (p + 1) = (putd (st p).1 i.o.dst .undef, (st p).2)
  hist : ∀ (p : Nat) i, its[p]? = some i → hs (p + 1) = if i.heavy then (st (p + 1)).2 :: hs p else hs p
  pan : ∀ (pp k : Nat) v σp, pn = some (pp, k, v, σp) → ∃ ip t', its[pp]? = some ip ∧ ip.idx = k ∧ ip.heavy = true ∧ ev1 m call ip.o (st pp).1 (st pp).2 = some (.pan v t' σp)

def DeadRun (base k : Nat) (its : List It) (t : T V) (σ : H) (hist : List H) : Prop :=
    ∃ (st : Nat → T V × H) (hs : Nat → List H), st 0 = (t, σ) ∧ hs 0 = hist ∧ ∀ (p : Nat) i, its[p]? = some i →
      ((i.heavy = false ∧ i.anc.testBit k = false) → evFl base i (st p).1 (st p).2 (hs p) = some (st (p + 1))) ∧
      (¬ (i.heavy = false ∧ i.anc.testBit k = false) → st (p + 1) = (putd (st p).1 i.o.dst .undef, (st p).2)) ∧
      hs (p + 1) = if i.heavy then (st (p + 1)).2 :: hs p else hs p
theorem dead_run {base k : Nat} : ∀ {its : List It} {t : T V} {σ : H} {hist : List H}, evDead base k its t σ hist = true → DeadRun base k its t σ hist
  | [], t, σ, hist, _ => ⟨fun _ => (t, σ), fun _ => hist, rfl, rfl, by simp⟩
  | i :: its, t, σ, hist, h => by
    have go : ∀ {t' : T V} {σ' : H} {hist' : List H}, evDead base k its t' σ' hist' = true → ((i.heavy = false ∧ i.anc.testBit k = false) → evFl base i t σ hist = some (t', σ')) →
        (¬ (i.heavy = false ∧ i.anc.testBit k = false) → (t', σ') = (putd t i.o.dst .undef, σ)) → hist' = (if i.heavy then σ' :: hist else hist) → DeadRun base k (i :: its) t σ hist := by
      intro t' σ' hist' h' h1 h2 h3
      obtain ⟨st, hs, e0, e1, e2⟩ := dead_run h'
      refine ⟨fun | 0 => (t, σ) | p + 1 => st p, fun | 0 => hist | p + 1 => hs p, rfl, rfl, ?_⟩
      intro p j hj
      cases p with
      | zero =>
        simp at hj; subst hj
        simp only [e0, e1]
        exact ⟨h1, h2, h3⟩
      | succ p => exact e2 p j (by simpa using hj)
    simp only [evDead] at h
    split at h
    · rename_i hh
      exact go h (by simp [hh]) (fun _ => rfl) (by simp [hh])
    · rename_i hh
      split at h
      · rename_i hb
        exact go h (by simp [hb]) (fun _ => rfl) (by simp [hh])
      · rename_i hb
        split at h
        · rename_i q hq
          exact go h (fun _ => hq) (fun hn => absurd ⟨by simpa using hh, by simpa using hb⟩ hn) (by simp [hh])
        · simp at h

def Oc.pn (its : List It) : Oc → Pn → (Nat → T V × H) → Prop
  | .ok t σ, pn, st => pn = none ∧ st its.length = (t, σ)
  | .pan v _ σ, pn, _ => ∃ pp k, pn = some (pp, k, v, σ)

def ItsRun (m : MT) (call : Call) (base : Nat) (its : List It) (t : T V) (σ : H) (hist : List H) (oc : Oc) : Prop :=
    ∃ (pn : Pn) (st : Nat → T V × H) (hs : Nat → List H), st 0 = (t, σ) ∧ hs 0 = hist ∧ Runs m call base its pn st hs ∧ oc.pn its pn st
theorem its_run {base : Nat} : ∀ {its : List It} {t : T V} {σ : H} {hist : List H} {oc : Oc}, evIts m call base its t σ hist = some oc → ItsRun m call base its t σ hist oc
  | [], t, σ, hist, oc, h => by
    simp [evIts] at h; subst h
    exact ⟨none, fun _ => (t, σ), fun _ => hist, rfl, rfl, ⟨by simp, by simp, by simp, by simp, by simp⟩, rfl, rfl⟩
  | i :: its, t, σ, hist, oc, h => by
    have go : ∀ {t' : T V} {σ' : H} {hist' : List H}, evIts m call base its t' σ' hist' = some oc → (i.heavy = false → evFl base i t σ hist = some (t', σ')) → (i.heavy = true → ev1 m call i.o t σ = some (.ok t' σ')) →
        hist' = (if i.heavy then σ' :: hist else hist) → ItsRun m call base (i :: its) t σ hist oc := by
      intro t' σ' hist' h' h1 h2 h3
      obtain ⟨pn, st, hs, e0, e1, hr, ho⟩ := its_run h'
      have lv : ∀ (p : Nat) j, Live (pn.map fun q => (q.1 + 1, q.2)) (p + 1) j ↔ Live pn p j := by
        intro p j
        cases pn with
        | none => simp [Live]
        | some q => obtain ⟨pp, k, v, σp⟩ := q; simp [Live]
      have l0 : Live (pn.map fun q => (q.1 + 1, q.2)) 0 i := by
        cases pn with
        | none => simp [Live]
        | some q => obtain ⟨pp, k, v, σp⟩ := q; simp [Live]
      refine ⟨pn.map fun q => (q.1 + 1, q.2), fun | 0 => (t, σ) | p + 1 => st p, fun | 0 => hist | p + 1 => hs p, rfl, rfl, ⟨?_, ?_, ?_, ?_, ?_⟩, ?_⟩
      · intro p j hj hl hh
        cases p with
        | zero => simp at hj; subst hj; simp only [e0]; exact h1 hh
        | succ p => exact hr.light p j (by simpa using hj) ((lv p j).1 hl) hh
      · intro p j hj hl hh
        cases p with
        | zero => simp at hj; subst hj; simp only [e0]; exact h2 hh
        | succ p => exact hr.hard p j (by simpa using hj) ((lv p j).1 hl) hh
      · intro p j hj hl
        cases p with
        | zero => simp at hj; subst hj; exact absurd l0 hl
        | succ p => exact hr.dead p j (by simpa using hj) fun h => hl ((lv p j).2 h)
      · intro p j hj
        cases p with
        | zero => simp at hj; subst hj; simp only [e0, e1]; exact h3
        | succ p => exact hr.hist p j (by simpa using hj)
      · intro pp k v σp e
        cases pn with
        | none => simp at e
        | some q =>
          obtain ⟨pp', k', v', σp'⟩ := q
          simp at e
          obtain ⟨rfl, rfl, rfl, rfl⟩ := e
          obtain ⟨ip, t2, a1, a2, a3, a4⟩ := hr.pan _ _ _ _ rfl
          exact ⟨ip, t2, by simpa using a1, a2, a3, a4⟩
      · cases oc with
        | ok t2 σ2 =>
          obtain ⟨rfl, e⟩ := ho
          exact ⟨rfl, e⟩
        | pan v t2 σ2 =>
          obtain ⟨pp, k, rfl⟩ := ho
          exact ⟨pp + 1, k, rfl⟩
    simp only [evIts] at h
    split at h
    · rename_i hh
      split at h
      · rename_i t' σ' h1
        exact go h (by simp [hh]) (fun _ => h1) (by simp [hh])
      · rename_i v t2 σ' h1
        split at h
        · rename_i hd
          simp at h; subst h
          obtain ⟨st, hs, e0, e1, hr⟩ := dead_run hd
          refine ⟨some (0, i.idx, v, σ'), fun | 0 => (t, σ) | p + 1 => st p, fun | 0 => hist | p + 1 => hs p, rfl, rfl, ⟨?_, ?_, ?_, ?_, ?_⟩, 0, i.idx, rfl⟩
          · intro p j hj hl hh
            cases p with
            | zero => simp [Live] at hl
            | succ p =>
              simp [Live] at hl
              exact (hr p j (by simpa using hj)).1 hl
          · intro p j hj hl hh
            cases p with
            | zero => simp [Live] at hl
            | succ p => simp [Live, hh] at hl
          · intro p j hj hl
            cases p with
            | zero => simp at hj; subst hj; simp only [e0]
            | succ p =>
              refine (hr p j (by simpa using hj)).2.1 fun h => hl ?_
              simp only [Live]
              exact .inr ⟨by omega, h⟩
          · intro p j hj
            cases p with
            | zero => simp at hj; subst hj; simp [e0, e1, hh]
            | succ p => exact (hr p j (by simpa using hj)).2.2
          · intro pp k v2 σp e
            simp at e
            obtain ⟨rfl, rfl, rfl, rfl⟩ := e
            exact ⟨i, t2, by simp, rfl, hh, h1⟩
        · simp at h
      · simp at h
    · rename_i hh
      split at h
      · rename_i q h1
        obtain ⟨t', σ'⟩ := q
        exact go h (fun _ => h1) (fun h2 => absurd h2 hh) (by simp [hh])
      · simp at h
end

end Go.Abs
